/-
  A closed run is cut: that it may be.
-/
import Derived.Test.YthidnkhhndbidaaGreatDoorAbsE
import Derived.Test.YthidnkhhndbidaaGreatDoorAbsArgs
import Derived.Test.YthidnkhhndbidaaGreatDoorCutRun
namespace Go.Proofs.YthidnkhhndbidaaGreatDoor.Abs
section
set_option linter.unusedVariables false
variable {P : Program} {φ ψ : Phi} {w w' : World}
theorem vSameL_eq {f : Value → Value → Bool} (hf : ∀ a b, f a b = true → a = b) : ∀ {x y : List Value}, vSameL f x y = true → x = y
  | [], [], _ => rfl
  | [], _ :: _, h => by cases h
  | _ :: _, [], h => by cases h
  | a :: x, b :: y, h => by
    have h' : ifb (f a b) (vSameL f x y) false = true := h
    rw [ifb_eq] at h'
    split at h'
    · rename_i h1
      rw [hf a b h1, vSameL_eq hf h']
    · cases h'
theorem adSame_eq {a b : Option Addr} (h : adSame a b = true) : a = b := by
  unfold adSame at h
  split at h
  · rfl
  · rw [ifb_eq] at h
    split at h
    · rename_i h1
      rw [Nat.eq_of_beq_eq_true h1, Nat.eq_of_beq_eq_true h]
    · cases h
  · cases h
theorem refSame_eq {a b : Option Nat} (h : refSame a b = true) : a = b := by
  unfold refSame at h
  split at h
  · rfl
  · rw [Nat.eq_of_beq_eq_true h]
  · cases h
theorem bSame_eq {a b : Bool} (h : bSame a b = true) : a = b := by cases a <;> cases b <;> first | rfl | cases h
theorem arr_eq {a b : Array Value} (h : a.toList = b.toList) : a = b := Array.toList_inj.1 h
theorem vSame1_eq {f : Value → Value → Bool} (hf : ∀ a b, f a b = true → a = b) (a b : Value) (h : vSame1 f a b = true) : a = b := by
  unfold vSame1 at h
  split at h
  · unfold vInt at h
    split at h
    · rw [ifb_eq] at h
      split at h
      · rename_i h1
        rw [kEq_eq h1]
        rw [iBeq_eq] at h
        rw [eq_of_beq h]
      · cases h
    · cases h
  · unfold vStr at h
    split at h
    · rename_i x _ y
      rw [bEq_eq] at h
      obtain ⟨⟨x⟩⟩ := x
      obtain ⟨⟨y⟩⟩ := y
      have : x = y := by simpa using h
      rw [this]
    · cases h
  · unfold vBool at h
    split at h
    · rw [bSame_eq h]
    · cases h
  · unfold vPtr at h
    split at h
    · rw [adSame_eq h]
    · cases h
  · unfold vSlc at h
    split at h
    · rw [ifb_eq] at h
      split at h
      · rename_i h1
        rw [ifb_eq] at h
        split at h
        · rename_i h2
          rw [adSame_eq h1, Nat.eq_of_beq_eq_true h2, Nat.eq_of_beq_eq_true h]
        · cases h
      · cases h
    · cases h
  · unfold vMap at h
    split at h
    · rw [refSame_eq h]
    · cases h
  · unfold vNilF at h
    split at h
    · rfl
    · cases h
  · unfold vNilI at h
    split at h
    · rfl
    · cases h
  · unfold vAgg at h
    split at h
    · rw [arr_eq (vSameL_eq hf h)]
    · cases h
  · unfold vTup at h
    split at h
    · rw [arr_eq (vSameL_eq hf h)]
    · cases h
  · unfold vIfc at h
    split at h
    · rw [ifb_eq] at h
      split at h
      · rename_i h1
        rw [Nat.eq_of_beq_eq_true h1, hf _ _ h]
      · cases h
    · cases h
  · cases h
theorem vSame_eq (a b : Value) (h : vSame a b = true) : a = b :=
  vSame1_eq (vSame1_eq (vSame1_eq fun _ _ h => by cases h)) a b h
theorem eSame_eq {a b : MapEntry} (h : eSame a b = true) : a = b := by
  obtain ⟨k, v, n⟩ := a
  obtain ⟨j, u, m⟩ := b
  have h : ifb (vSame k j) (ifb (vSame v u) (Nat.beq n m) false) false = true := h
  rw [ifb_eq] at h
  split at h
  · rename_i h1
    rw [ifb_eq] at h
    split at h
    · rename_i h2
      rw [vSame_eq _ _ h1, vSame_eq _ _ h2, Nat.eq_of_beq_eq_true h]
    · cases h
  · cases h
theorem eSameL_eq : ∀ {x y : List MapEntry}, eSameL x y = true → x = y
  | [], [], _ => rfl
  | [], _ :: _, h => by cases h
  | _ :: _, [], h => by cases h
  | a :: x, b :: y, h => by
    have h' : ifb (eSame a b) (eSameL x y) false = true := h
    rw [ifb_eq] at h'
    split at h'
    · rename_i h1
      rw [eSame_eq h1, eSameL_eq h']
    · cases h'
theorem pSame_eq {a b : Nat × Nat} (h : pSame a b = true) : a = b := by
  obtain ⟨i, j⟩ := a
  obtain ⟨k, l⟩ := b
  have h : ifb (Nat.beq i k) (Nat.beq j l) false = true := h
  rw [ifb_eq] at h
  split at h
  · rename_i h1
    rw [Nat.eq_of_beq_eq_true h1, Nat.eq_of_beq_eq_true h]
  · cases h
theorem ifb_both {c b : Bool} (h : ifb c b false = true) : c = true ∧ b = true := by
  rw [ifb_eq] at h
  split at h
  · exact ⟨‹_›, h⟩
  · cases h
theorem oSame_eq {a b : AObj} (h : oSame a b = true) : a = b := by
  unfold oSame at h
  split at h
  · unfold oCells at h
    split at h
    · obtain ⟨h1, h⟩ := ifb_both h
      obtain ⟨h2, h⟩ := ifb_both h
      obtain ⟨h3, h⟩ := ifb_both h
      obtain ⟨h4, h⟩ := ifb_both h
      rw [Nat.eq_of_beq_eq_true h1, Nat.eq_of_beq_eq_true h2, bSame_eq h3, pSame_eq h4, vSameL_eq vSame_eq h]
    · cases h
  · unfold oConst at h
    split at h
    · obtain ⟨h1, h⟩ := ifb_both h
      rw [Nat.eq_of_beq_eq_true h1, vSameL_eq vSame_eq h]
    · cases h
  · unfold oMap at h
    split at h
    · obtain ⟨h1, h⟩ := ifb_both h
      rw [Nat.eq_of_beq_eq_true h1, eSameL_eq h]
    · cases h
  · cases h
theorem oIs_eq {o : Option AObj} {x : AObj} (h : oIs o x = true) : o = some x := by
  cases o with
  | none => cases h
  | some y => rw [oSame_eq (show oSame y x = true from h)]
theorem footOk_get {h : Tr AObj} : ∀ {l : List (Nat × AObj)}, footOk h l = true → ∀ p ∈ l, h.get p.1 = some p.2
  | [], _, p, hp => by cases hp
  | q :: l, hl, p, hp => by
    obtain ⟨h1, h2⟩ := ifb_both (show ifb (oIs (h.get q.1) q.2) (footOk h l) false = true from hl)
    rcases List.mem_cons.1 hp with rfl | hp
    · exact oIs_eq h1
    · exact footOk_get h2 p hp
theorem outOk_get {h : Tr AObj} : ∀ {l : List (Nat × Option AObj)}, outOk h l = true → ∀ p ∈ l, ∀ x, p.2 = some x → h.get p.1 = some x
  | [], _, p, hp => by cases hp
  | q :: l, hl, p, hp => by
    obtain ⟨h1, h2⟩ := ifb_both (show ifb (Option.rec true (fun x => oIs (h.get q.1) x) q.2) (outOk h l) false = true from hl)
    rcases List.mem_cons.1 hp with rfl | hp
    · intro x hx
      rw [hx] at h1
      exact oIs_eq h1
    · exact outOk_get h2 p hp
theorem putAllO_get : ∀ (l : List (Nat × Option AObj)) (h : Tr AObj) {b : Nat} {x : AObj}, (putAllO l h).get b = some x → (b, some x) ∈ l ∨ (memN l b = false ∧ h.get b = some x)
  | [], h, b, x, hb => .inr ⟨rfl, hb⟩
  | p :: l, h, b, x, hb => by
    have hb' : (putAllO l (Tr.put p.2 h p.1)).get b = some x := by
      have e : putAllO (p :: l) h = (Tr.put p.2 h p.1).force (putAllO l) := rfl
      rw [e, Tr.force_eq] at hb
      exact hb
    have em : memN (p :: l) b = ifb (Nat.beq p.1 b) true (memN l b) := rfl
    rcases putAllO_get l _ hb' with h1 | ⟨h1, h2⟩
    · exact .inl (List.mem_cons_of_mem _ h1)
    · rcases Tr.get_put h2 with ⟨rfl, h3⟩ | ⟨h3, h4⟩
      · refine .inl ?_
        obtain ⟨i, y⟩ := p
        simp only at h3
        subst h3
        exact List.mem_cons_self
      · refine .inr ⟨?_, h4⟩
        rw [em, h1]
        cases hx : Nat.beq p.1 b with
        | true => exact absurd (Nat.eq_of_beq_eq_true hx).symm h3
        | false => rfl
theorem putAllO_some : ∀ (l : List (Nat × AObj)) (h : Tr AObj) (b : Nat), (∀ p ∈ l, p.1 ≠ b) → (putAllO (somes l) h).get b = h.get b
  | [], _, _, _ => rfl
  | p :: l, h, b, hl => by
    have e : putAllO (somes (p :: l)) h = (Tr.put (some p.2) h p.1).force (putAllO (somes l)) := rfl
    rw [e, Tr.force_eq]
    refine (putAllO_some l _ b fun q hq => hl q (List.mem_cons_of_mem _ hq)).trans ?_
    exact Tr.get_put_ne (Ne.symm (hl p List.mem_cons_self))
theorem putAllO_named : ∀ (l : List (Nat × AObj)) (h : Tr AObj) (b : Nat), ((putAllO (somes l) h).get b).isSome = true ∨ ((∀ p ∈ l, p.1 ≠ b) ∧ (putAllO (somes l) h).get b = h.get b)
  | [], _, _ => .inr ⟨fun _ h => (by cases h), rfl⟩
  | p :: l, h, b => by
    have e : putAllO (somes (p :: l)) h = (Tr.put (some p.2) h p.1).force (putAllO (somes l)) := rfl
    rw [e, Tr.force_eq]
    rcases putAllO_named l (Tr.put (some p.2) h p.1) b with h1 | ⟨h1, h2⟩
    · exact .inl h1
    · by_cases hb : p.1 = b
      · subst hb
        exact .inl (by rw [h2, Tr.get_put_same]; rfl)
      · exact .inr ⟨fun q hq => by
          rcases List.mem_cons.1 hq with rfl | hq
          · exact hb
          · exact h1 q hq, h2.trans (Tr.get_put_ne (Ne.symm hb))⟩
/-- WHAT STANDS BESIDE what a call looks at stays, and so do tables. -/
theorem Post.beside {f0 f : Nat → Option AObj} {f1 f2 : Nat → Option AObj} {n n1 n2 : Nat} (hS : SF φ f n w) (h0 : ∀ b x, f0 b = some x → f b = some x) (hP : PF φ f0 n w ψ f1 n1 w') (hn : n1 ≤ n2)
    (h2 : ∀ b x, f2 b = some x → f1 b = some x ∨ ((f0 b = none ∨ x.isConst = true) ∧ f b = some x)) : PF φ f n w ψ f2 n2 w' := by
  have side : ∀ b x, (f0 b = none ∨ x.isConst = true) → f b = some x → ∀ L, φ b = some L → ∀ c y M, f0 c = some y → y.isConst = false → φ c = some M → M.blk ≠ L.blk := fun b x hb hx L hL c y M hc hy hM e => by
    obtain rfl : c = b := hS.mem.inj c b y x M L (h0 _ _ hc) hx hM hL e (.inl hy)
    rcases hb with hb | hb
    · rw [hb] at hc
      cases hc
    · have e1 := h0 _ _ hc
      rw [hx] at e1
      cases e1
      rw [hb] at hy
      cases hy
  have loc : ∀ b x, f b = some x → ∃ L, φ b = some L ∧ ψ b = some L := fun b x hx => by
    obtain ⟨L, h1, _⟩ := hS.mem.obj b x hx
    exact ⟨L, h1, hP.le _ _ h1⟩
  have mix : ∀ b x L, (f0 b = none ∨ x.isConst = true) → f b = some x → ψ b = some L → ∀ c y M, f1 c = some y → ψ c = some M → M.blk = L.blk → x.isConst = false ∨ y.isConst = false → c = b := fun b x L hb hx hL c y M hc hM e hcon => by
    obtain ⟨L', g1, g2⟩ := loc b x hx
    rw [g2] at hL
    cases hL
    obtain ⟨k1, k2, k3⟩ := (hP.fr.rest L.blk (hS.mem.lt hx g1) fun c y M hc hy hM => side b x hb hx L g1 c y M hc hy hM).2 c y M hc hM e
    have hx' : x.isConst = false := hcon.resolve_right (by rw [k1]; decide)
    exact hS.mem.inj c b y x M L (h0 _ _ k2) hx k3 g1 e (.inr hx')
  refine ⟨⟨⟨?_, ?_⟩, fun b hb => hP.rel.fresh b (Nat.le_trans hn hb), hP.rel.globals⟩, hP.le, ⟨hP.fr.size, hP.fr.os, hP.fr.tape, hP.fr.output, ?_⟩, Nat.le_trans hP.next hn, hP.names⟩
  · intro b c x y L M hb hc hL hM e hcon
    rcases h2 b x hb with h3 | ⟨h3, h4⟩ <;> rcases h2 c y hc with h5 | ⟨h5, h6⟩
    · exact hP.rel.mem.inj b c x y L M h3 h5 hL hM e hcon
    · exact mix c y M h5 h6 hM b x L h3 hL e hcon.symm
    · exact (mix b x L h3 h4 hL c y M h5 hM e.symm hcon).symm
    · obtain ⟨L', g1, g2⟩ := loc b x h4
      obtain ⟨M', g3, g4⟩ := loc c y h6
      rw [g2] at hL
      rw [g4] at hM
      cases hL
      cases hM
      exact hS.mem.inj b c x y L M h4 h6 g1 g3 e hcon
  · intro b x hb
    rcases h2 b x hb with h3 | ⟨h3, h4⟩
    · exact hP.rel.mem.obj b x h3
    · obtain ⟨L, g1, o, g2, g3⟩ := hS.mem.obj b x h4
      refine ⟨L, hP.le _ _ g1, o, ?_, g3.mono hP.le⟩
      rw [(hP.fr.rest L.blk (hS.mem.lt h4 g1) fun c y M hc hy hM => side b x h3 h4 L g1 c y M hc hy hM).1]
      exact g2
  · intro k hk hno
    obtain ⟨k1, k2⟩ := hP.fr.rest k hk fun b x L hb hx hL => hno b x L (h0 _ _ hb) hx hL
    refine ⟨k1, fun b x L hb hL e => ?_⟩
    rcases h2 b x hb with h3 | ⟨h3, h4⟩
    · obtain ⟨q1, q2, q3⟩ := k2 b x L h3 hL e
      exact ⟨q1, h0 _ _ q2, q3⟩
    · obtain ⟨L', g1, g2⟩ := loc b x h4
      rw [g2] at hL
      cases hL
      exact FrF.own hno b x L h4 g1 e
theorem SF.part {f0 f : Nat → Option AObj} {n : Nat} (hS : SF φ f n w) (h0 : ∀ b x, f0 b = some x → f b = some x) : SF φ f0 n w :=
  ⟨⟨fun b c x y L M hb hc => hS.mem.inj b c x y L M (h0 _ _ hb) (h0 _ _ hc), fun b x hb => hS.mem.obj b x (h0 _ _ hb)⟩, hS.fresh, hS.globals⟩
theorem somes_mem {l : List (Nat × AObj)} {b : Nat} {x : AObj} (h : (b, some x) ∈ somes l) : (b, x) ∈ l := by
  unfold somes at h
  obtain ⟨⟨i, y⟩, h1, h2⟩ := List.mem_map.1 h
  cases h2
  exact h1
/-- CUTS OF A FUNCTION serve as its summary. -/
theorem cuts_ok {Sm : Summ} (hmix : P.follows .mixedOrders = true) (hSm : SmOk P Sm) (hNum : NumOk P) {f : FuncId} {l : List Cut} {N : Nat} {base : Tr AObj → Option (Tr AObj)} (hbase : ∀ h B, base h = some B → ∀ b x, B.get b = some x → h.get b = some x ∧ x.isConst = true)
    (hl : ∀ h B, base h = some B → ∀ c ∈ l, c.good (run P Sm N (.inv (.fn (.func f) #[]) c.args (c.st B))) = true) : SmOk P (Sm.add f (sumCuts base l)) := by
  refine smOk_calls hSm fun args s v s1 h fr cs φ w args' hS hargs => ?_
  obtain ⟨B, hB, h'⟩ : ∃ B, base s.heap = some B ∧ pickCut l args s = .ok (v, s1) := by
    unfold sumCuts at h
    cases hb : base s.heap with
    | none => rw [hb] at h; cases h
    | some B => rw [hb] at h; exact ⟨B, rfl, h⟩
  replace h := h'
  clear h'
  replace hl := hl _ _ hB
  replace hbase := hbase _ _ hB
  have pick : ∃ c ∈ l, s.next = c.n0 ∧ c.says args s = .ok (v, s1) := by
    clear hl
    induction l with
    | nil => cases h
    | cons c l ih =>
      have h' : ifb (Nat.beq s.next c.n0) (c.says args s) (pickCut l args s) = .ok (v, s1) := h
      rcases ifb_ok h' with ⟨h1, h2⟩ | ⟨_, h2⟩
      · exact ⟨c, List.mem_cons_self, Nat.eq_of_beq_eq_true h1, h2⟩
      · obtain ⟨d, h3, h4⟩ := ih h2
        exact ⟨d, List.mem_cons_of_mem _ h3, h4⟩
  obtain ⟨c, hc, hn, hsay⟩ := pick
  have hgood := hl c hc
  unfold Cut.says at hsay
  obtain ⟨a1, hsay⟩ := ifb_no hsay
  obtain ⟨a2, hsay⟩ := ifb_no hsay
  obtain ⟨a3, hsay⟩ := ifb_no hsay
  rw [Tr.force_eq] at hsay
  cases hsay
  obtain rfl := vSameL_eq vSame_eq a1
  unfold Cut.good at hgood
  split at hgood
  · rename_i v' s' hrun
    obtain ⟨b1, hgood⟩ := ifb_both hgood
    obtain ⟨b2, hgood⟩ := ifb_both hgood
    obtain ⟨b3, hgood⟩ := ifb_both hgood
    obtain ⟨b4, b5⟩ := ifb_both hgood
    obtain rfl := vSame_eq _ _ b1
    have b2 := Nat.le_of_ble_eq_true b2
    have sub : ∀ b x, (c.st B).heap.get b = some x → s.heap.get b = some x := by
      intro b x hb
      rcases putAllO_get _ _ hb with h1 | ⟨_, h1⟩
      · exact footOk_get a3 _ (somes_mem h1)
      · rcases putAllO_get _ _ h1 with h2 | ⟨_, h2⟩
        · exact footOk_get a2 _ (somes_mem h2)
        · exact (hbase _ _ h2).1
    have hS' : SF φ s.heap.get c.n0 w := hn ▸ hS
    have hS0 : SRel φ (c.st B) w := hS'.part sub
    obtain ⟨v2, s2, ψ, n, w1, v3, w', q1, q2, q3, q4, q5⟩ := (run_ok hmix hSm hNum N).inv _ _ _ _ hrun .normal fr cs (.inl rfl) (.inl rfl) φ w _ args' hS0 (.fn (.func f) (.nil φ)) hargs
    cases q1
    refine ⟨ψ, n, w1, v3, w', by simpa [invoke] using q2, q3, ?_, q5⟩
    have key : PF φ s.heap.get c.n0 w ψ (putAllO c.out s.heap).get c.n1 w' := by
      refine Post.beside hS' sub q4 b2 fun b x hb => ?_
      rcases putAllO_get _ _ hb with h1 | ⟨h1, h2⟩
      · exact .inl (outOk_get b4 _ h1 x rfl)
      · rcases putAllO_named c.turned (putAllO (somes c.same) B) b with h3 | ⟨h3, h4⟩
        · obtain ⟨y, hy⟩ := Option.isSome_iff_exists.1 h3
          have hy' : s.heap.get b = some y := sub b y hy
          rw [h2] at hy'
          cases hy'
          rcases putAllO_get _ _ hy with h5 | ⟨_, h5⟩
          · have := List.all_eq_true.1 b5 _ (somes_mem h5)
            rw [h1] at this
            cases this
          · rcases putAllO_get _ _ h5 with h6 | ⟨_, h6⟩
            · exact .inl (footOk_get b3 _ (somes_mem h6))
            · exact .inr ⟨.inr (hbase _ _ h6).2, h2⟩
        · rcases putAllO_named c.same B b with h5 | ⟨h5, h6⟩
          · obtain ⟨y, hy⟩ := Option.isSome_iff_exists.1 h5
            have hy0 : (c.st B).heap.get b = some y := h4.trans hy
            have hy' := sub b y hy0
            rw [h2] at hy'
            cases hy'
            rcases putAllO_get _ _ hy with h7 | ⟨_, h7⟩
            · exact .inl (footOk_get b3 _ (somes_mem h7))
            · exact .inr ⟨.inr (hbase _ _ h7).2, h2⟩
          · cases hBb : B.get b with
            | none => exact .inr ⟨.inl ((h4.trans h6).trans hBb), h2⟩
            | some y =>
              obtain ⟨q1, q2⟩ := hbase _ _ hBb
              rw [h2] at q1
              cases q1
              exact .inr ⟨.inr q2, h2⟩
    rw [← hn] at key
    exact key
  · cases hgood
theorem base0_ok : ∀ h B, base0 h = some B → ∀ b x, B.get b = some x → h.get b = some x ∧ x.isConst = true := fun h B e b x hb => by
  cases e
  exact Tr.get_nil_no hb
theorem baseM_get {g : Nat} {h B : Tr AObj} (e : baseM g h = some B) : ∃ m t, h.get g = some (.const [.int .i64 m] t) ∧ B = Tr.nil.set g (.const [.int .i64 m] t) := by
  unfold baseM baseM2 at e
  split at e
  · rename_i m t hb
    cases e
    exact ⟨m, t, hb, rfl⟩
  · cases e
theorem baseM_ok (g : Nat) : ∀ h B, baseM g h = some B → ∀ b x, B.get b = some x → h.get b = some x ∧ x.isConst = true := fun h B e b x hb => by
  obtain ⟨m, t, h1, rfl⟩ := baseM_get e
  rcases Tr.get_set hb with ⟨rfl, rfl⟩ | ⟨_, hb⟩
  · exact ⟨h1, rfl⟩
  · exact Tr.get_nil_no hb
theorem cuts_fast {Sm : Summ} (hmix : P.follows .mixedOrders = true) (hSm : SmOk P Sm) (hNum : NumOk P) {f : FuncId} {l : List Cut} (hl : ∀ c ∈ l, c.good (c.runs P Sm f .nil) = true) : SmOk P (Sm.add f (sumCuts base0 l)) :=
  cuts_ok (N := 1000000000) hmix hSm hNum base0_ok fun h B e c hc => by
    cases e
    have := hl c hc
    rwa [Cut.runs_eq] at this
theorem cuts_fastM {Sm : Summ} (hmix : P.follows .mixedOrders = true) (hSm : SmOk P Sm) (hNum : NumOk P) {f g : Nat} {l : List Cut} (hl : ∀ c ∈ l, ∀ m t, c.good (c.runs P Sm f (Tr.nil.set g (.const [.int .i64 m] t))) = true) : SmOk P (Sm.add f (sumCuts (baseM g) l)) :=
  cuts_ok (N := 1000000000) hmix hSm hNum (baseM_ok g) fun h B e c hc => by
    obtain ⟨m, t, _, rfl⟩ := baseM_get e
    have := hl c hc m t
    rwa [Cut.runs_eq] at this
end
end Go.Proofs.YthidnkhhndbidaaGreatDoor.Abs
