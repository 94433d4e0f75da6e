/-
  One operation of a region whose order is open.
-/
import Derived.Test.YtbakhdgiimjnkaaGreatDoorAbsReg5
namespace Go.Proofs.YtbakhdgiimjnkaaGreatDoor.Abs
section
set_option linter.unusedVariables false
open Classical
variable {P : Program} {ops : Array Oper} {I : List PI} {rd : Option Nat} {base n : Nat} {a0 am : Ac} {φ0 : Phi} {f0 : Nat → Option AObj} {n0 : Nat} {w0 w : World} {sm : St} {L : Nat → Bool} {ts : Array Value} {ds : List Deferred} {es : List Nat} {prev : Option Nat} {pb : Nat}
  {pn : Nat → Prop} {sg : St} {df : List Deferred} {φ : Phi}

abbrev plus (L : Nat → Bool) (i : Nat) : Nat → Bool := fun j => L j || decide (i = j)

theorem plus_closed {i : Nat} {p : PI} (closed : ∀ j q, I[j]? = some q → L j = true → ∀ k, tb q.b k = true → L k = true) (hp : I[i]? = some p) (hb : ∀ k, tb p.b k = true → L k = true) :
    ∀ j q, I[j]? = some q → plus L i j = true → ∀ k, tb q.b k = true → plus L i k = true := by
  intro j q hq hj k hk
  simp only [plus, Bool.or_eq_true, decide_eq_true_eq] at hj ⊢
  rcases hj with hj | rfl
  · exact .inl (closed j q hq hj k hk)
  · rw [hp] at hq
    cases hq
    exact .inl (hb k hk)

/-- an operation that leaves memory as it is -/
theorem sim_plain (hst : Stat P ops I) (S : Sim P ops I rd base n a0 am φ0 f0 n0 w0 sm L ts ds w es prev pb pn sg df φ) {i : Nat} {o : Oper} {p : PI} (ho : ops[i]? = some o) (hp : I[i]? = some p) (hi : L i = false) (hb : ∀ k, tb p.b k = true → L k = true)
    (hc : p.c ≠ .e) (hnew : ∀ b x, ¬ NewIs P ops I base a0 am i b x) (hwf : p.c = .n → ¬ WF ops I a0 am i o true) (hdst : ∀ t, o.dst = some t → t < a0.n) {v v' : Value} (hv : VRel φ v v') (hvis : ValIs am o v) :
    Sim P ops I rd base n a0 am φ0 f0 n0 w0 sm (plus L i) (putT ts o.dst v') ds w es prev pb pn sg df φ := by
  obtain ⟨t1, t2⟩ := tmps_next hst (L := L) ho φ.le_refl S.size hdst S.tmps hv hvis
  refine ⟨S.gaps, fun j o' p' ho' hp' he hj => ?_, fun j hj => ?_, plus_closed S.closed hp hb, fun k hk => by simp [plus, S.pbL k hk], fun j hj => by simp [plus, S.pnL j hj], ?_, S.nx, fun j o' p' ho' hp' hn hpn hx => ?_, S.hole, t1, t2, S.dfs⟩
  · simp only [plus, Bool.or_eq_false_iff] at hj
    exact S.ein j o' p' ho' hp' he hj.1
  · have h1 := S.eout j hj
    have : i ≠ j := by
      rintro rfl
      obtain ⟨pe, h2, h3⟩ : ∃ pe, I[i]? = some pe ∧ pe.c = .e := by
        have key : ∀ {es : List Nat} {prev : Option Nat} {pb : Nat} {pn : Nat → Prop} {sg : St} {df : List Deferred} {sm : St} {dm : List Deferred}, Gaps P ops I rd base a0 am es prev pb pn sg df sm dm → i ∈ es → ∃ pe, I[i]? = some pe ∧ pe.c = .e := by
          intro es prev pb pn sg df sm dm g
          induction g with
          | last => intro h; cases h
          | next he hc _ _ _ _ _ _ _ ih =>
            intro h
            rcases List.mem_cons.1 h with rfl | h
            · exact ⟨_, he, hc⟩
            · exact ih h
        exact key S.gaps hj
      rw [hp] at h2
      cases h2
      exact hc h3
    simp [plus, h1, this]
  · have : FD P ops I base a0 am (plus L i) pn sg = FD P ops I base a0 am L pn sg := FD_same hnew
    rw [this]
    exact S.post
  · refine S.free j o' p' ho' hp' hn hpn fun ⟨h1, h2⟩ => hx ⟨by simp [plus, h1], h2⟩

/-- a new block -/
theorem sim_new (hst : Stat P ops I) (hF : ∀ i, OpFact P ops I base n a0 am i) (S : Sim P ops I rd base n a0 am φ0 f0 n0 w0 sm L ts ds w es prev pb pn sg df φ) (h0 : n0 ≤ base) {i : Nat} {o : Oper} {p : PI} (ho : ops[i]? = some o) (hp : I[i]? = some p) (hi : L i = false)
    (hb : ∀ k, tb p.b k = true → L k = true) (hc : p.c = .n) (hw : WF ops I a0 am i o true) {x : AObj} {f : Nat → Value} (hx : aOp P o.op (env ops I a0 am i o) = .ok (x, f)) (hvis : ValIs am o (f (base + i))) {bo : Obj} {M : Loc} {v' : Value} {d : Nat} (hM : M.blk = w.heap.size)
    (hO : ∀ ψ : Phi, φ.le ψ → ORel ψ M x bo) (hV : ∀ (ψ : Phi) (m : Nat), φ.le ψ → ψ m = some M → VRel ψ (f m) v') :
    ∃ ψ, Sim P ops I rd base n a0 am φ0 f0 n0 w0 sm (plus L i) (putT ts o.dst v') ds { w with heap := w.heap.push bo, drawn := d } es prev pb pn sg df ψ := by
  have hnp : ¬ pn i := fun e => by
    have := S.pnL i e
    rw [hi] at this; cases this
  obtain ⟨hdst, _, _, hnn⟩ := hF i o p ho hp
  have hin := (hnn hc).1
  have hfree := S.free i o p ho hp hc hnp (fun h => by rw [hi] at h; cases h.1)
  have hle : φ.le (φ.add (base + i) M) := Phi.add_le hfree
  have hnew : NewIs P ops I base a0 am i (base + i) x := ⟨o, p, f, ho, hp, hc, hw, hx, rfl⟩
  have old : ∀ k, k < w.heap.size → (w.heap.push bo)[k]? = w.heap[k]? := fun k hk => by rw [Array.getElem?_push, if_neg (by omega)]
  have fd : ∀ b y, FD P ops I base a0 am (plus L i) pn sg b = some y → (b = base + i ∧ y = x) ∨ (b ≠ base + i ∧ FD P ops I base a0 am L pn sg b = some y) := by
    intro b y h
    by_cases e : b = base + i
    · subst e
      rw [FD_new (L := plus L i) (i := i) (by simp [plus]) hnp hnew] at h
      exact .inl ⟨rfl, (Option.some.inj h).symm⟩
    · refine .inr ⟨e, ?_⟩
      rcases FD_some h with ⟨j, h1, h2, h3⟩ | h1
      · simp only [plus, Bool.or_eq_true, decide_eq_true_eq] at h1
        rcases h1 with h1 | rfl
        · exact FD_new h1 h2 h3
        · obtain ⟨_, _, _, _, _, _, _, _, h8⟩ := h3
          exact absurd h8 e
      · exact FD_sg S h1
  have hpost := S.post
  obtain ⟨t1, t2⟩ := tmps_next hst (L := L) ho hle S.size hdst S.tmps (hV _ _ hle (Phi.add_same _ _ _)) hvis
  refine ⟨φ.add (base + i) M, S.gaps, fun j o' p' ho' hp' he hj => ?_, fun j hj => ?_, plus_closed S.closed hp hb, fun k hk => by simp [plus, S.pbL k hk], fun j hj => by simp [plus, S.pnL j hj],
    ⟨⟨⟨?_, ?_⟩, fun b hb => ?_, fun g hg => hle _ _ (hpost.rel.globals g hg)⟩, Phi.le_trans hpost.le hle, ⟨?_, hpost.fr.os, hpost.fr.tape, hpost.fr.output, ?_⟩, hpost.next, fun b hb => ?_⟩, S.nx, fun j o' p' ho' hp' hn hpn hxx => ?_, S.hole, t1, t2, S.dfs.mono hle⟩
  · simp only [plus, Bool.or_eq_false_iff] at hj
    exact S.ein j o' p' ho' hp' he hj.1
  · have h1 := S.eout j hj
    have : i ≠ j := by
      rintro rfl
      have key : ∀ {es : List Nat} {prev : Option Nat} {pb : Nat} {pn : Nat → Prop} {sg : St} {df : List Deferred} {sm : St} {dm : List Deferred}, Gaps P ops I rd base a0 am es prev pb pn sg df sm dm → i ∈ es → ∃ pe, I[i]? = some pe ∧ pe.c = .e := by
        intro es prev pb pn sg df sm dm g
        induction g with
        | last => intro h; cases h
        | next he hc _ _ _ _ _ _ _ ih =>
          intro h
          rcases List.mem_cons.1 h with rfl | h
          · exact ⟨_, he, hc⟩
          · exact ih h
      obtain ⟨pe, h2, h3⟩ := key S.gaps hj
      rw [hp] at h2
      cases h2
      rw [hc] at h3; cases h3
    simp [plus, h1, this]
  · intro b c y z K N hb hc hK hN hKN
    rcases fd b y hb with ⟨rfl, rfl⟩ | ⟨n1, g1⟩ <;> rcases fd c z hc with ⟨rfl, rfl⟩ | ⟨n2, g2⟩
    · rfl
    · rw [Phi.add_same] at hK
      obtain rfl := Option.some.inj hK
      simp only [Phi.add, if_neg n2] at hN
      have := hpost.rel.mem.lt g2 hN
      omega
    · rw [Phi.add_same] at hN
      obtain rfl := Option.some.inj hN
      simp only [Phi.add, if_neg n1] at hK
      have := hpost.rel.mem.lt g1 hK
      omega
    · simp only [Phi.add, if_neg n1] at hK
      simp only [Phi.add, if_neg n2] at hN
      exact hpost.rel.mem.inj b c y z K N g1 g2 hK hN hKN
  · intro b y hb
    rcases fd b y hb with ⟨rfl, rfl⟩ | ⟨n1, g1⟩
    · exact ⟨M, Phi.add_same _ _ _, bo, by rw [hM]; simp, hO _ hle⟩
    · obtain ⟨K, h1, o', h2, h3⟩ := hpost.rel.mem.obj b y g1
      exact ⟨K, hle _ _ h1, o', by
        show (w.heap.push bo)[K.blk]? = some o'
        rw [old _ (hpost.rel.mem.lt g1 h1)]; exact h2, h3.mono hle⟩
  · have := S.nx
    simp only [Phi.add]
    rw [if_neg (by omega)]
    exact hpost.rel.fresh b hb
  · have := hpost.fr.size
    simp
    omega
  · intro k hk hn
    obtain ⟨e1, e2⟩ := hpost.fr.rest k hk hn
    have hsz := hpost.fr.size
    refine ⟨by rw [← e1]; exact old k (by omega), fun b y K hb hK hKk => ?_⟩
    rcases fd b y hb with ⟨rfl, _⟩ | ⟨n1, g1⟩
    · rw [Phi.add_same] at hK
      obtain rfl := Option.some.inj hK
      omega
    · simp only [Phi.add, if_neg n1] at hK
      exact e2 b y K g1 hK hKk
  · simp only [Phi.add]
    rw [if_neg (by omega)]
    exact hpost.names b hb
  · by_cases e : i = j
    · subst e
      rw [ho] at ho'; cases ho'
      exact absurd ⟨by simp [plus], hw⟩ hxx
    · simp only [Phi.add]
      rw [if_neg (by omega)]
      exact S.free j o' p' ho' hp' hn hpn fun ⟨h1, h2⟩ => hxx ⟨by simp [plus, h1], h2⟩
end
end Go.Proofs.YtbakhdgiimjnkaaGreatDoor.Abs
