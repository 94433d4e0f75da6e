/-
  ALL REQUESTS ARE BORNE: what the evaluator answers, the machine does.
-/
import Derived.Test.YtbakhdgiimjnkaaGreatDoorAbsReg7
namespace Go.Proofs.YtbakhdgiimjnkaaGreatDoor.Abs
section
set_option linter.unusedVariables false
open Classical
variable {P : Program} {ops : Array Oper} {I : List PI} {rd : Option Nat} {base n : Nat} {a0 am : Ac} {φ0 : Phi} {f0 : Nat → Option AObj} {n0 : Nat} {w0 w : World} {sm : St}

/-- the machine, when those of L are done -/
def Simd (P : Program) (ops : Array Oper) (I : List PI) (rd : Option Nat) (base n : Nat) (a0 am : Ac) (φ0 : Phi) (f0 : Nat → Option AObj) (n0 : Nat) (w0 : World) (sm : St) (L : Nat → Bool) (ts : Array Value) (ds : List Deferred) (w : World) : Prop :=
  ∃ es prev pb pn sg df φ, Sim P ops I rd base n a0 am φ0 f0 n0 w0 sm L ts ds w es prev pb pn sg df φ

theorem sim_step (hst : Stat P ops I) (hF : ∀ i, OpFact P ops I base n a0 am i) {L : Nat → Bool} {ts : Array Value} {ds : List Deferred} (hs : Simd P ops I rd base n a0 am φ0 f0 n0 w0 sm L ts ds w) (h0 : n0 ≤ base) {b : Fm} (hrd : RdRel φ0 rd b.rd) {i : Nat} {o : Oper} (ho : ops[i]? = some o) (hi : L i = false)
    (hr : ∀ e ∈ o.after, bindsE e.ground = true → L e.on = true) (rest : List Nat) (k : List Item) (cs : List Frame) : ∃ ts' ds' w', One P b ops i ts ds w ts' ds' w' rest k cs ∧ Simd P ops I rd base n a0 am φ0 f0 n0 w0 sm (plus L i) ts' ds' w' := by
  obtain ⟨es, prev, pb, pn, sg, df, φ, S⟩ := hs
  have hlt : i < I.length := by rw [hst.len]; exact (Array.getElem?_eq_some_iff.1 ho).1
  have hp : I[i]? = some I[i] := List.getElem?_eq_getElem hlt
  generalize I[i] = p at hp
  have hb := bef_done hst S.closed ho hp hr
  have hl := looks_valD (am := am) (a0 := a0) hst S.closed ho hp hi hb
  obtain ⟨hdst, hwf, hpf, hnf⟩ := hF i o p ho hp
  have hcls := hst.cls i o p ho hp
  by_cases hc : p.c = .e
  · obtain ⟨ts', ds', w', es', prev', pb', pn', sg', df', ψ, h1, h2⟩ := sim_effect hst hF S h0 hrd ho hp hi hb hc rest k cs
    exact ⟨ts', ds', w', h1, es', prev', pb', pn', sg', df', ψ, h2⟩
  obtain ⟨wb, hw, hwu⟩ := hwf hc
  have hwant := wanted_sim hl S.tmps hw
  cases wb with
  | false =>
    have hno : ∀ b x, ¬ NewIs P ops I base a0 am i b x := by
      rintro b x ⟨o', p', f, h1, _, _, h4, _⟩
      rw [ho] at h1
      cases h1
      have := WF_inj hw h4
      cases this
    exact ⟨_, _, _, one_skip ho hwant, es, prev, pb, pn, sg, df, φ, sim_plain hst S ho hp hi hb hc hno (fun _ h => by have := WF_inj hw h; cases this) hdst (v := undefV) (v' := undef) und_rel (hwu rfl)⟩
  | true =>
    have hnd := no_defer (P := P) (o := o) (by rw [← hcls]; exact hc)
    by_cases hcn : p.c = .n
    · obtain ⟨hin, hnn⟩ := hnf hcn
      obtain ⟨x, f, hx, hvis⟩ := hnn hw
      obtain ⟨bo, M, v', d, h1, h2, h3, h4⟩ := aOp_ok (w := w) (φ := φ) (env_rel S.post.rel hl S.tmps) hx
      obtain ⟨ψ, S'⟩ := sim_new hst hF S h0 ho hp hi hb hcn hw hx hvis h2 h3 h4
      exact ⟨_, _, _, one_does (ds' := []) ho hwant ⟨_, _, h1, .inl ⟨rfl, Ran.value _ _ _ _ _, hnd⟩⟩, es, prev, pb, pn, sg, df, ψ, S'⟩
    · have hno : ∀ b x, ¬ NewIs P ops I base a0 am i b x := by
        rintro b x ⟨o', p', f, _, h2, h3, _⟩
        rw [hp] at h2
        cases h2
        exact hcn h3
      have plain : ∀ (h : Tr AObj) (v : Value), (∀ b x, h.get b = some x → FD P ops I base a0 am L pn sg b = some x) → pOp P h o.op (env ops I a0 am i o) = .ok v → ValIs am o v →
          ∃ ts' ds' w', One P b ops i ts ds w ts' ds' w' rest k cs ∧ Simd P ops I rd base n a0 am φ0 f0 n0 w0 sm (plus L i) ts' ds' w' := by
        intro h v hh hv hvis
        obtain ⟨v', h1, h2⟩ := pOp_ok (o := o) (S.post.rel.mem.sub hh) (env_rel S.post.rel hl S.tmps) hv
        exact ⟨_, _, _, one_does (ds' := []) ho hwant ⟨_, _, h1, .inl ⟨rfl, Ran.value _ _ _ _ _, hnd⟩⟩, es, prev, pb, pn, sg, df, φ, sim_plain hst S ho hp hi hb hc hno (fun e => absurd e hcn) hdst h2 hvis⟩
      by_cases hcp : p.c = .p
      · obtain ⟨v, hvis, hv⟩ := hpf hcp hw
        exact plain .nil v (fun b x h => by cases h) (hv .nil) hvis
      · have hcr : p.c = .r := by cases h : p.c <;> simp_all
        have hR : RFact P ops I a0 am i o sg.heap := by
          cases hg : S.gaps with
          | last hr _ _ =>
            rcases hr i o p ho hp hcr with h1 | h1
            · have := S.pbL i h1
              rw [hi] at this; cases this
            · exact h1
          | next he hce hprev hr _ _ _ _ k =>
            rcases hr i o p ho hp hcr with h1 | h1 | h1
            · have := hb _ h1
              rw [S.eout _ List.mem_cons_self] at this; cases this
            · have := S.pbL i h1
              rw [hi] at this; cases this
            · exact h1
        obtain ⟨v, hvis, hv⟩ := hR hw
        exact plain sg.heap v (fun b x h => FD_sg S h) hv hvis

/-- how many are not listed -/
def unl : List Bool → Nat
  | [] => 0
  | true :: l => unl l
  | false :: l => unl l + 1
theorem unl_set : ∀ {l : List Bool} {i : Nat}, l[i]? = some false → unl (l.set i true) + 1 = unl l
  | [], i, h => by simp at h
  | x :: l, 0, h => by
    obtain rfl : x = false := by simpa using h
    rfl
  | x :: l, i + 1, h => by
    have := unl_set (l := l) (i := i) (by simpa using h)
    cases x <;> simp [unl] <;> omega
theorem unl_zero : ∀ {l : List Bool}, unl l = 0 → ∀ i : Nat, l[i]? ≠ some false
  | [], _, i => by simp
  | true :: l, h, 0 => by simp
  | true :: l, h, i + 1 => by simpa using unl_zero (l := l) h i
  | false :: l, h, i => by simp [unl] at h
theorem unl_replicate : ∀ n, unl (List.replicate n false) = n
  | 0 => rfl
  | n + 1 => by rw [List.replicate_succ]; simp [unl, unl_replicate n]
theorem bindsE_any (e : Edge) : bindsE e.ground = Region.binds .any e := by
  unfold Region.binds
  cases e.ground <;> rfl

/-- THE ORDER, whatever it is -/
theorem sim_all (hst : Stat P ops I) (hF : ∀ i, OpFact P ops I base n a0 am i) (h0 : n0 ≤ base) {b : Fm} (hrd : RdRel φ0 rd b.rd) (k : List Item) (cs : List Frame) : ∀ (fuel t : Nat) (listed : Array Bool) (ts : Array Value) (ds : List Deferred) (w : World),
    listed.size = ops.size → unl listed.toList ≤ fuel → Simd P ops I rd base n a0 am φ0 f0 n0 w0 sm (fun i => listed.getD i false) ts ds w →
    ∃ ts' ds' w' L, (∀ i, i < ops.size → L i = true) ∧ Simd P ops I rd base n a0 am φ0 f0 n0 w0 sm L ts' ds' w' ∧
      Steps P (lone (b.at ts ds (.inRegion ops (Region.linearise.go .any ops fuel t listed []) :: k)) cs w) (lone (b.at ts' ds' (.inRegion ops [] :: k)) cs w') := by
  -- if none may come up, all are done
  have all : ∀ (listed : Array Bool), listed.size = ops.size → Region.ready .any ops listed = [] → ∀ i, i < ops.size → listed.getD i false = true := by
    intro listed hsz hr i
    induction i using Nat.strongRecOn with
    | _ i ih =>
      intro hi
      cases hL : listed.getD i false with
      | true => rfl
      | false =>
        exfalso
        have hmem : i ∈ Region.ready .any ops listed := by
          rw [mem_ready]
          refine ⟨?_, ops[i], Array.getElem?_eq_getElem hi, fun e he hb => ?_⟩
          · have : i < listed.size := by omega
            simp [this] at hL ⊢
            exact hL
          · have := hst.lt i ops[i] (Array.getElem?_eq_getElem hi) e he (by rw [bindsE_any]; exact hb)
            exact ih e.on this (by omega)
        rw [hr] at hmem
        cases hmem
  intro fuel
  induction fuel with
  | zero =>
    intro t listed ts ds w hsz hu hs
    refine ⟨ts, ds, w, _, fun i hi => ?_, hs, .refl _ _⟩
    have h1 := unl_zero (Nat.le_zero.1 hu) i
    have h2 : i < listed.size := by omega
    rw [Array.getElem?_toList] at h1
    simp only [Array.getElem?_eq_getElem h2, ne_eq, Option.some.injEq, Bool.not_eq_false] at h1
    simp [h2, h1]
  | succ fuel ih =>
    intro t listed ts ds w hsz hu hs
    have hgo : Region.linearise.go .any ops (fuel + 1) t listed [] = match (Region.ready .any ops listed)[t % (Region.ready .any ops listed).length]? with
      | some i => Region.linearise.go .any ops fuel (t / (Region.ready .any ops listed).length) (listed.setIfInBounds i true) [i]
      | none => [].reverse := rfl
    rw [hgo]
    cases hi : (Region.ready .any ops listed)[t % (Region.ready .any ops listed).length]? with
    | none =>
      have hnil : Region.ready .any ops listed = [] := by
        cases hr : Region.ready .any ops listed with
        | nil => rfl
        | cons x xs =>
          rw [hr] at hi
          have hlt : t % (x :: xs).length < (x :: xs).length := Nat.mod_lt _ (by simp)
          simp at hi
          simp at hlt
          omega
      exact ⟨ts, ds, w, _, all listed hsz hnil, hs, .refl _ _⟩
    | some i =>
      obtain ⟨h1, o, ho, hall⟩ := mem_ready.1 (List.mem_of_getElem? hi)
      have hlt : i < ops.size := (Array.getElem?_eq_some_iff.1 ho).1
      have hlt2 : i < listed.size := by omega
      have hLi : listed.getD i false = false := by
        simp [hlt2] at h1 ⊢
        exact h1
      obtain ⟨ts', ds', w', h2, h3⟩ := sim_step hst hF hs h0 hrd ho hLi (fun e he hb => hall e he (by rw [← bindsE_any]; exact hb)) (Region.linearise.go .any ops fuel (t / (Region.ready .any ops listed).length) (listed.setIfInBounds i true) []) k cs
      have hL : (plus (fun i => listed.getD i false) i) = fun j => (listed.setIfInBounds i true).getD j false := by
        funext j
        by_cases e : i = j
        · subst e
          simp [plus, hlt2]
        · simp only [plus]
          rw [getD_set_ne false e]
          simp [e]
      rw [hL] at h3
      have hset : listed.toList[i]? = some false := by
        rw [Array.getElem?_toList, Array.getElem?_eq_getElem hlt2]
        simp [hlt2] at hLi
        rw [hLi]
      have hu2 := unl_set hset
      obtain ⟨ts2, ds2, w2, L2, g1, g2, g3⟩ := ih (t / (Region.ready .any ops listed).length) (listed.setIfInBounds i true) ts' ds' w' (by simp [hsz]) (by simp; omega) h3
      refine ⟨ts2, ds2, w2, L2, g1, g2, ?_⟩
      simp only
      rw [linearise_go_acc, List.reverse_singleton, List.singleton_append]
      exact Steps.trans h2 g3

theorem plan_ok {n : Nat} {l : List PStep} (h : plan P ops = some (n, l)) : ∃ I, opsOk P ops I ops.toList I 0 = true ∧ chk ops I n l ⟨none, 0, 0, 0, 0, true⟩ = true := by
  have key : ∀ (I : List PI) (n' : Nat) (l' : List PStep), planIf P ops I n' l' = some (n, l) → opsOk P ops I ops.toList I 0 = true ∧ chk ops I n l ⟨none, 0, 0, 0, 0, true⟩ = true := by
    intro I n' l' h
    unfold planIf at h
    cases h1 : opsOk P ops I ops.toList I 0 with
    | false => rw [h1] at h; cases h
    | true =>
      rw [h1] at h
      cases h2 : chk ops I n' l' ⟨none, 0, 0, 0, 0, true⟩ with
      | false => rw [h2] at h; cases h
      | true => rw [h2] at h; cases h; exact ⟨rfl, h2⟩
  exact ⟨_, key _ _ _ h⟩
/-- A REGION WHOSE ORDER IS OPEN. -/
theorem draw_ok {Sm : Summ} (hmix : P.follows .mixedOrders = true) {N : Nat} (hI : ∀ m, m ≤ N → InvOk P Sm (run P Sm m)) : DrawOk P (run P Sm N) := by
  intro fn rd ops n l a s r hp h φ w b ts ds id k cs hb hrd hS hA
  obtain ⟨I, hok, hchk⟩ := plan_ok hp
  have hst := stat_of hok
  -- it comes to an end
  have fin : ∀ {l : List PStep} {fuel : Nat} {a : Ac} {s : St} {base : Nat}, run P Sm fuel (.steps fn rd ops l base a s) = .ok r → ∃ a1 s1, r = .at .normal a1 s1 := by
    intro l
    induction l with
    | nil =>
      intro fuel a s base h
      cases fuel with
      | zero => cases h
      | succ fuel => cases h; exact ⟨_, _, rfl⟩
    | cons st l ih =>
      intro fuel a s base h
      cases fuel with
      | zero => cases h
      | succ fuel =>
        obtain ⟨a', s', h1, _⟩ := steps_cons (P := P) (ih := run P Sm fuel) h
        exact ih h1
  obtain ⟨am, sm, rfl⟩ := fin h
  have hcx : Cx ops I a ⟨none, 0, 0, 0, 0, true⟩ a := ⟨rfl, fun _ _ => rfl, fun j q _ hj => by rw [tb_zero] at hj; cases hj⟩
  have hkeep := keep hchk h
  obtain ⟨b1, b2⟩ := build (base := s.next) hst hI (Nat.le_refl N) hchk h hcx
  have hF := fun i => b1 i (tb_zero i)
  obtain ⟨es, g1, g2, g3⟩ := b2 _ (fun _ => False) ⟨fun _ => rfl, rfl, fun i o p _ _ hi => (by rw [tb_zero] at hi; cases hi), fun b x hx => .inl hx, fun _ h => h.elim, fun i hi => by rw [tb_zero] at hi; cases hi⟩
  -- the first state
  have hfirst : ∀ x, (s.heap.get x).isSome = true → x < s.next := by
    intro x hx
    cases hg : s.heap.get x with
    | none => rw [hg] at hx; cases hx
    | some y =>
      obtain ⟨M, h1, _⟩ := hS.mem.obj x y hg
      exact hS.lt h1
  have hdrew := Post.drew hS
  have start : Simd P ops I rd s.next n a am φ s.heap.get s.next w sm (fun i => (Array.replicate ops.size false).getD i false) ts ds { w with drawn := w.drawn + 1 } := by
    have hL : ∀ i, (Array.replicate ops.size false).getD i false = false := by
      intro i
      by_cases h : i < ops.size <;> simp [h]
    refine ⟨es, none, 0, fun _ => False, ⟨s.heap, s.next + n⟩, a.dfs, φ, g1, fun i o p ho hp he _ => g2 i o p ho hp he (tb_zero i), fun i _ => hL i, fun j q _ hj => (by rw [hL] at hj; cases hj), fun k hk => (by rw [tb_zero] at hk; cases hk), fun _ h => h.elim, ?_, Nat.le_refl _, fun i o p _ _ _ _ _ => ?_, fun i o p _ _ _ _ => ?_, hA.tmps.1, fun t v hv => ?_, hA.dfs⟩
    · refine hdrew.sub (fun b x h => ?_) (Nat.le_add_right _ _)
      rcases FD_some h with ⟨i, h1, _⟩ | h1
      · rw [hL] at h1; cases h1
      · exact h1
    · exact hS.fresh _ (Nat.le_add_right _ _)
    · cases hg : s.heap.get (s.next + i) with
      | none => rfl
      | some x =>
        have := hfirst (s.next + i) (by rw [hg]; rfl)
        omega
    · unfold valD at hv
      rw [if_neg] at hv
      · exact hA.tmps.2 t v hv
      · rintro ⟨j, _, h⟩
        have h' := hL j
        simp only at h
        rw [h'] at h; cases h
  obtain ⟨ts', ds', w', L, q1, q2, q3⟩ := sim_all hst hF (Nat.le_refl _) (b := b) hrd k cs ops.size (w.tape w.drawn (.order b.fn id)) (Array.replicate ops.size false) ts ds _ (by simp) (by rw [Array.toList_replicate, unl_replicate]; exact Nat.le_refl _) start
  obtain ⟨es', prev, pb, pn, sg, df, ψ, S⟩ := q2
  -- all are done
  have hes : es' = [] := by
    cases es' with
    | nil => rfl
    | cons e es' =>
      obtain ⟨pe, h1, _⟩ := gaps_mem S.gaps List.mem_cons_self
      have hlt : e < ops.size := by rw [← hst.len]; exact (List.getElem?_eq_some_iff.1 h1).1
      have := S.eout e List.mem_cons_self
      rw [q1 e hlt] at this; cases this
  subst hes
  have hrun : Steps P (lone (b.at ts ds (.code (.region id ops true) :: k)) cs w) (lone (b.at ts' ds' k) cs w') := .head (mv_draw hmix) (q3.trans (.one mv_region_end))
  cases hg : S.gaps with
  | last hr hn hh =>
    refine ⟨am, sm, ψ, w', ts', ds', rfl, S.post.sub (fun b x h => ?_) (by rw [hn]; exact Nat.le_refl _), ⟨⟨by rw [S.size, hkeep.1], fun t v hv => ?_⟩, S.dfs⟩, hrun⟩
    · rcases hh b x h with h1 | ⟨i, h1, h2⟩
      · exact FD_sg S h1
      · obtain ⟨o, p, f, h3, h4, h5⟩ := _root_.id h2
        exact FD_new (q1 i (Array.getElem?_eq_some_iff.1 h3).1) h1 h2
    · refine S.tmps t v ?_
      unfold valD
      split
      · exact hv
      · rename_i hno
        rw [← hkeep.2 t fun j hj => ?_]
        · exact hv
        · exfalso
          obtain ⟨o, ho, _⟩ := _root_.id hj
          exact hno ⟨j, hj, q1 j (Array.getElem?_eq_some_iff.1 ho).1⟩

/-- WHAT THE EVALUATOR ANSWERS, THE MACHINE DOES. -/
theorem run_ok {Sm : Summ} (hmix : P.follows .mixedOrders = true) (hSm : SmOk P Sm) (hNum : NumOk P) : ∀ n, AllOk P Sm (run P Sm n) := by
  intro n
  induction n using Nat.strongRecOn with
  | _ n ih =>
    cases n with
    | zero => exact allOk_zero
    | succ n => exact allOk_succ hSm hNum (ih n (Nat.lt_succ_self n)) (draw_ok hmix fun m hm => (ih m (Nat.lt_succ_of_le hm)).inv)
end
end Go.Proofs.YtbakhdgiimjnkaaGreatDoor.Abs
