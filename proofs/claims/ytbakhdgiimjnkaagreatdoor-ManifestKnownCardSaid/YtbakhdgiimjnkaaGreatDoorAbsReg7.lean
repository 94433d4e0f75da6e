/-
  Effects of a region whose order is open; the whole region.
-/
import Derived.Test.YtbakhdgiimjnkaaGreatDoorAbsReg6
namespace Go.Proofs.YtbakhdgiimjnkaaGreatDoor.Abs
section
set_option linter.unusedVariables false
open Classical
variable {P : Program} {ops : Array Oper} {I : List PI} {rd : Option Nat} {base n : Nat} {a0 am : Ac} {φ0 : Phi} {f0 : Nat → Option AObj} {n0 : Nat} {w0 w : World} {sm : St} {L : Nat → Bool} {ts : Array Value} {ds : List Deferred} {es : List Nat} {prev : Option Nat} {pb : Nat}
  {pn : Nat → Prop} {sg : St} {df : List Deferred} {φ : Phi}

theorem gaps_mem {i : Nat} : ∀ {es : List Nat} {prev : Option Nat} {pb : Nat} {pn : Nat → Prop} {sg : St} {df : List Deferred} {sm : St} {dm : List Deferred}, Gaps P ops I rd base a0 am es prev pb pn sg df sm dm → i ∈ es → ∃ pe, I[i]? = some pe ∧ pe.c = .e := by
  intro es prev pb pn sg df sm dm g
  induction g with
  | last => intro h; cases h
  | next he hc _ _ _ _ _ _ _ ih =>
    intro h
    rcases List.mem_cons.1 h with rfl | h
    · exact ⟨_, he, hc⟩
    · exact ih h
theorem gaps_pred {i : Nat} : ∀ {es : List Nat} {prev : Option Nat} {pb : Nat} {pn : Nat → Prop} {sg : St} {df : List Deferred} {sm : St} {dm : List Deferred}, Gaps P ops I rd base a0 am es prev pb pn sg df sm dm → i ∈ es → ∃ pe, I[i]? = some pe ∧ ((∀ q, prev = some q → tb pe.b q = true) ∨ ∃ q ∈ es, tb pe.b q = true) := by
  intro es prev pb pn sg df sm dm g
  induction g with
  | last => intro h; cases h
  | next he hc hp _ _ _ _ _ _ ih =>
    intro h
    rcases List.mem_cons.1 h with rfl | h
    · exact ⟨_, he, .inl hp⟩
    · obtain ⟨pe, h1, h2⟩ := ih h
      refine ⟨pe, h1, .inr ?_⟩
      rcases h2 with h2 | ⟨q, h2, h3⟩
      · exact ⟨_, List.mem_cons_self, h2 _ rfl⟩
      · exact ⟨q, List.mem_cons_of_mem _ h2, h3⟩

/-- an effect -/
theorem sim_effect (hst : Stat P ops I) (hF : ∀ i, OpFact P ops I base n a0 am i) (S : Sim P ops I rd base n a0 am φ0 f0 n0 w0 sm L ts ds w es prev pb pn sg df φ) (h0 : n0 ≤ base) {b : Fm} (hrd : RdRel φ0 rd b.rd) {i : Nat} {o : Oper} {p : PI} (ho : ops[i]? = some o) (hp : I[i]? = some p) (hi : L i = false)
    (hb : ∀ k, tb p.b k = true → L k = true) (hc : p.c = .e) (rest : List Nat) (k0 : List Item) (cs : List Frame) :
    ∃ ts' ds' w' es' prev' pb' pn' sg' df' ψ, One P b ops i ts ds w ts' ds' w' rest k0 cs ∧ Sim P ops I rd base n a0 am φ0 f0 n0 w0 sm (plus L i) ts' ds' w' es' prev' pb' pn' sg' df' ψ := by
  have hmem := S.ein i o p ho hp hc hi
  have hl := looks_valD (am := am) (a0 := a0) hst S.closed ho hp hi hb
  have hdst := (hF i o p ho hp).1
  cases hg : S.gaps with
  | last => cases hmem
  | @next e es' _ _ cn _ _ sp sg' _ _ df' _ pe he hce hprev hr hn hh hcn hx k =>
    -- it is the next one
    obtain rfl : i = e := by
      rcases List.mem_cons.1 hmem with h | h
      · exact h
      · exfalso
        obtain ⟨pi, h1, h2⟩ := gaps_pred k h
        rw [hp] at h1
        cases h1
        rcases h2 with h2 | ⟨q, h2, h3⟩
        · have := hb e (h2 e rfl)
          rw [S.eout e List.mem_cons_self] at this; cases this
        · have := hb q h3
          rw [S.eout q (List.mem_cons_of_mem _ h2)] at this; cases this
    rw [hp] at he
    cases he
    have hpost := S.post
    have hnone : ∀ j b x, NewIs P ops I base a0 am j b x → j ≠ i := by
      rintro j b x ⟨o', p', f', h1, h2, h3, _⟩ rfl
      rw [hp] at h2
      cases h2
      rw [hc] at h3; cases h3
    have hsp : ∀ b x, sp.heap.get b = some x → FD P ops I base a0 am L pn sg b = some x := by
      intro b x h
      rcases hh b x h with h1 | ⟨j, h1, h2, h3⟩
      · exact FD_sg S h1
      · exact FD_new (hb j (hcn j h1)) h2 h3
    have hsphole : ∀ j o' p', ops[j]? = some o' → I[j]? = some p' → p'.c = .n → ¬ (pn j ∨ tb cn j = true) → sp.heap.get (base + j) = none := by
      intro j o' p' ho' hp' hn' hpn
      cases hg : sp.heap.get (base + j) with
      | none => rfl
      | some x =>
        exfalso
        rcases hh _ x hg with h1 | ⟨j', h1, h2, h3⟩
        · rw [S.hole j o' p' ho' hp' hn' (fun h => hpn (.inl h))] at h1; cases h1
        · obtain ⟨_, _, _, _, _, _, _, _, h8⟩ := h3
          have : j' = j := by omega
          subst this
          exact hpn (.inr h1)
    have ein' : ∀ j o' p', ops[j]? = some o' → I[j]? = some p' → p'.c = .e → plus L i j = false → j ∈ es' := by
      intro j o' p' ho' hp' he' hj
      simp only [plus, Bool.or_eq_false_iff, decide_eq_false_iff_not] at hj
      rcases List.mem_cons.1 (S.ein j o' p' ho' hp' he' hj.1) with rfl | h
      · exact absurd rfl hj.2
      · exact h
    have eout' : ∀ j ∈ es', plus L i j = false := by
      intro j hj
      have h1 := S.eout j (List.mem_cons_of_mem _ hj)
      have : i ≠ j := by
        rintro rfl
        -- a later effect stands behind this one
        have key : ∀ {es : List Nat} {prev : Option Nat} {pb : Nat} {pn : Nat → Prop} {sg : St} {df : List Deferred} {sm : St} {dm : List Deferred}, Gaps P ops I rd base a0 am es prev pb pn sg df sm dm → ∀ j ∈ es, ∀ q, prev = some q → ∃ m ∈ es, ∃ pm, I[m]? = some pm ∧ tb pm.b q = true ∧ (m = j ∨ True) := by
          intro es prev pb pn sg df sm dm g
          cases g with
          | last => intro j h; cases h
          | next he hc hp _ _ _ _ _ _ => intro j _ q hq; exact ⟨_, List.mem_cons_self, _, he, hp q hq, .inr trivial⟩
        obtain ⟨pi, h2, h3⟩ := gaps_pred k hj
        rw [hp] at h2
        cases h2
        rcases h3 with h3 | ⟨q, h3, h4⟩
        · have := hb i (h3 i rfl)
          rw [hi] at this; cases this
        · have := hb q h4
          rw [S.eout q (List.mem_cons_of_mem _ h3)] at this; cases this
      simp [plus, h1, this]
    obtain ⟨o2, wb, ho2, hwf, hx1, hx2⟩ := hx
    rw [ho] at ho2
    cases ho2
    have hwant := wanted_sim hl S.tmps hwf
    have pbL' : ∀ k, tb p.b k = true → plus L i k = true := fun k hk => by simp [plus, hb k hk]
    have pnL' : ∀ j, (pn j ∨ tb cn j = true) → plus L i j = true := by
      intro j hj
      rcases hj with hj | hj
      · simp [plus, S.pnL j hj]
      · simp [plus, hb j (hcn j hj)]
    cases wb with
    | false =>
      obtain ⟨hv, rfl, rfl⟩ := hx1 rfl
      obtain ⟨t1, t2⟩ := tmps_next hst (L := L) ho φ.le_refl S.size hdst S.tmps (v := undefV) (v' := undef) und_rel hv
      refine ⟨_, _, w, es', some i, p.b, (fun j => pn j ∨ tb cn j = true), sg', _, φ, one_skip ho hwant, k, ein', eout', plus_closed S.closed hp hb, pbL', pnL', ?_, by rw [hn]; exact S.nx, ?_, hsphole, t1, t2, S.dfs⟩
      · refine hpost.sub (fun b x h => ?_) (by rw [hn]; exact Nat.le_refl _)
        rcases FD_some h with ⟨j, h1, h2, h3⟩ | h1
        · have hji := hnone j b x h3
          simp only [plus, Bool.or_eq_true, decide_eq_true_eq] at h1
          rcases h1 with h1 | h1
          · exact FD_new h1 (fun h => h2 (.inl h)) h3
          · exact absurd h1.symm hji
        · exact hsp b x h1
      · intro j o' p' ho' hp' hn' hpn hxx
        exact S.free j o' p' ho' hp' hn' (fun h => hpn (.inl h)) fun ⟨h1, h2⟩ => hxx ⟨by simp [plus, h1], h2⟩
    | true =>
      obtain ⟨Sm, ih, v0, ds0, hI, hdo, hv, rfl⟩ := hx2 rfl
      have hS : SRel φ sp w := ⟨hpost.rel.mem.sub hsp, fun b hb => hpost.rel.fresh b (by rw [← hn]; exact hb), hpost.rel.globals⟩
      obtain ⟨v, dd, s', ψ, v', dd', w', q1, q2, q3, q4, q5⟩ := doOp_ok hI (b.at ts ds (.inRegion ops (i :: rest) :: k0)) cs (rd' := b.rd) hrd.isNone (env_rel hS hl S.tmps) hdo hS
      cases q5
      obtain ⟨t1, t2⟩ := tmps_next hst (L := L) ho q1.le S.size hdst S.tmps q2 hv
      have hnx := S.nx
      have hle0 := hpost.next
      -- blocks that are not placed yet
      have apart : ∀ j b x M, L j = true → ¬ (pn j ∨ tb cn j = true) → NewIs P ops I base a0 am j b x → φ b = some M → FD P ops I base a0 am L pn sg b = some x ∧ ∀ c y K, sp.heap.get c = some y → φ c = some K → K.blk ≠ M.blk := by
        intro j b x M h1 h2 h3 h4
        have h5 := FD_new (sg := sg) h1 (fun h => h2 (.inl h)) h3
        refine ⟨h5, fun c y K h6 h7 h8 => ?_⟩
        have := hpost.rel.mem.inj c b y x K M (hsp c y h6) h5 h7 h4 h8
        subst this
        obtain ⟨o', p', f', g1, g2, g3, _, _, g6⟩ := h3
        subst g6
        rw [hsphole j o' p' g1 g2 g3 h2] at h6
        cases h6
      have named : ∀ b, b < sp.next → ψ b = φ b := q1.names
      have fd : ∀ b x, FD P ops I base a0 am (plus L i) (fun j => pn j ∨ tb cn j = true) sg' b = some x → (∃ j, L j = true ∧ ¬ (pn j ∨ tb cn j = true) ∧ NewIs P ops I base a0 am j b x) ∨ sg'.heap.get b = some x := by
        intro b x h
        rcases FD_some h with ⟨j, h1, h2, h3⟩ | h1
        · have hji := hnone j b x h3
          simp only [plus, Bool.or_eq_true, decide_eq_true_eq] at h1
          rcases h1 with h1 | h1
          · exact .inl ⟨j, h1, h2, h3⟩
          · exact absurd h1.symm hji
        · exact .inr h1
      have hsz := q1.fr.size
      refine ⟨_, _, w', es', some i, p.b, (fun j => pn j ∨ tb cn j = true), sg', _, ψ, one_does ho hwant q4, k, ein', eout', plus_closed S.closed hp hb, pbL', pnL',
        ⟨⟨⟨?_, ?_⟩, q1.rel.fresh, q1.rel.globals⟩, Phi.le_trans hpost.le q1.le, ⟨Nat.le_trans hpost.fr.size hsz, q1.fr.os.trans hpost.fr.os, q1.fr.tape.trans hpost.fr.tape, q1.fr.output.trans hpost.fr.output, ?_⟩, ?_, ?_⟩, ?_, ?_, ?_, t1, t2, q3.append (S.dfs.mono q1.le)⟩
      · -- unlike blocks lie apart
        intro b c x y M K hb hc hM hK hMK
        rcases fd b x hb with ⟨j, h1, h2, h3⟩ | h1 <;> rcases fd c y hc with ⟨j', h1', h2', h3'⟩ | h1'
        · have hFb := FD_new (sg := sg) h1 (fun h => h2 (.inl h)) h3
          have hFc := FD_new (sg := sg) h1' (fun h => h2' (.inl h)) h3'
          obtain ⟨M', g1, _⟩ := hpost.rel.mem.obj b x hFb
          obtain ⟨K', g2, _⟩ := hpost.rel.mem.obj c y hFc
          have e1 := q1.le _ _ g1
          have e2 := q1.le _ _ g2
          rw [hM] at e1
          rw [hK] at e2
          cases e1
          cases e2
          exact hpost.rel.mem.inj b c x y _ _ hFb hFc g1 g2 hMK
        · have hFb := FD_new (sg := sg) h1 (fun h => h2 (.inl h)) h3
          obtain ⟨M', g1, o', g3, _⟩ := hpost.rel.mem.obj b x hFb
          have e1 := q1.le _ _ g1
          rw [hM] at e1
          cases e1
          obtain ⟨_, hap⟩ := apart j b x _ h1 h2 h3 g1
          have hlt : M.blk < w.heap.size := (Array.getElem?_eq_some_iff.1 g3).1
          obtain ⟨_, g4, g5⟩ := (q1.fr.rest M.blk hlt fun c' y' K' a1 _ a3 => hap c' y' K' a1 a3).2 c y K h1' hK hMK.symm
          exact absurd hMK.symm (hap c y K g4 g5)
        · have hFc := FD_new (sg := sg) h1' (fun h => h2' (.inl h)) h3'
          obtain ⟨M', g1, o', g3, _⟩ := hpost.rel.mem.obj c y hFc
          have e1 := q1.le _ _ g1
          rw [hK] at e1
          cases e1
          obtain ⟨_, hap⟩ := apart j' c y _ h1' h2' h3' g1
          have hlt : K.blk < w.heap.size := (Array.getElem?_eq_some_iff.1 g3).1
          obtain ⟨_, g4, g5⟩ := (q1.fr.rest K.blk hlt fun c' y' K' a1 _ a3 => hap c' y' K' a1 a3).2 b x M h1 hM hMK
          exact absurd hMK (hap b x M g4 g5)
        · exact q1.rel.mem.inj b c x y M K h1 h1' hM hK hMK
      · intro b x hb
        rcases fd b x hb with ⟨j, h1, h2, h3⟩ | h1
        · have hFb := FD_new (sg := sg) h1 (fun h => h2 (.inl h)) h3
          obtain ⟨M', g1, o', g3, g4⟩ := hpost.rel.mem.obj b x hFb
          obtain ⟨_, hap⟩ := apart j b x _ h1 h2 h3 g1
          have hlt : M'.blk < w.heap.size := (Array.getElem?_eq_some_iff.1 g3).1
          have := (q1.fr.rest M'.blk hlt fun c' y' K' a1 _ a3 => hap c' y' K' a1 a3).1
          exact ⟨M', q1.le _ _ g1, o', by rw [this]; exact g3, g4.mono q1.le⟩
        · exact q1.rel.mem.obj b x h1
      · intro m hm hno
        obtain ⟨e1, e2⟩ := hpost.fr.rest m hm hno
        have hm2 : m < w.heap.size := Nat.lt_of_lt_of_le hm hpost.fr.size
        have hno2 : ∀ b x K, sp.heap.get b = some x → x.isConst = false → φ b = some K → K.blk ≠ m := fun b x K a1 a2 a3 a4 => FrF.not e2 b x K (hsp b x a1) a2 a3 a4
        obtain ⟨e3, e4⟩ := q1.fr.rest m hm2 hno2
        refine ⟨e3.trans e1, fun b x K hb hK hKm => ?_⟩
        rcases fd b x hb with ⟨j, h1, h2, h3⟩ | h1
        · have hFb := FD_new (sg := sg) h1 (fun h => h2 (.inl h)) h3
          obtain ⟨M', g1, o', g3, g4⟩ := hpost.rel.mem.obj b x hFb
          have e5 := q1.le _ _ g1
          rw [hK] at e5
          cases e5
          exact e2 b x K hFb g1 hKm
        · obtain ⟨_, g4, g5⟩ := e4 b x K h1 hK hKm
          exact e2 b x K (hsp b x g4) g5 hKm
      · have := q1.next
        have h9 : n0 ≤ sg.next := hle0
        rw [← hn] at h9
        exact Nat.le_trans h9 this
      · intro c hc'
        rw [named c (by rw [hn]; omega), hpost.names c hc']
      · have := q1.next
        rw [hn] at this
        omega
      · intro j o' p' ho' hp' hn' hpn hxx
        have hjn := ((hF j o' p' ho' hp').2.2.2 hn').1
        rw [named _ (by rw [hn]; omega)]
        exact S.free j o' p' ho' hp' hn' (fun h => hpn (.inl h)) fun ⟨h1, h2⟩ => hxx ⟨by simp [plus, h1], h2⟩
      · intro j o' p' ho' hp' hn' hpn
        have hjn := (hF j o' p' ho' hp').2.2.2 hn'
        cases hgj : sg'.heap.get (base + j) with
        | none => rfl
        | some x =>
          exfalso
          obtain ⟨K, g1, o'', g2, _⟩ := q1.rel.mem.obj _ x hgj
          have g1' := g1
          rw [named _ (by rw [hn]; have := hjn.1; omega)] at g1'
          by_cases hxx : L j = true ∧ WF ops I a0 am j o' true
          · obtain ⟨y, f, h1, h2⟩ := hjn.2 hxx.2
            have hNew : NewIs P ops I base a0 am j (base + j) y := ⟨o', p', f, ho', hp', hn', hxx.2, h1, rfl⟩
            obtain ⟨hFb, hap⟩ := apart j _ y K hxx.1 hpn hNew g1'
            have hlt := hpost.rel.mem.lt hFb g1'
            obtain ⟨_, g4, g5⟩ := (q1.fr.rest K.blk hlt fun c' y' K' a1 _ a3 => hap c' y' K' a1 a3).2 _ x K hgj g1 rfl
            exact hap _ x K g4 g5 rfl
          · rw [S.free j o' p' ho' hp' hn' (fun h => hpn (.inl h)) hxx] at g1'
            cases g1'
end
end Go.Proofs.YtbakhdgiimjnkaaGreatDoor.Abs
