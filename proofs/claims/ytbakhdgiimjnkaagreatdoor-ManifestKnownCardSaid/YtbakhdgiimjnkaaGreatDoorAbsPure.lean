/-
  Operations that change nothing: what the evaluator says is what the model does.
-/
import Derived.Test.YtbakhdgiimjnkaaGreatDoorAbsRel
import Derived.Laws.Entries
import Derived.Lib.Strings
namespace Go.Proofs.YtbakhdgiimjnkaaGreatDoor.Abs

section types
variable {P : Program}
theorem undT_ok {t : TypeId} {u : TypeDesc} (h : undT P t = .ok u) : P.underlying t = some u := Rs.of_ok h
theorem undT_run {t : TypeId} {u : TypeDesc} (h : undT P t = .ok u) (w : World) : (underlying t).run P w = .ok u w := run_underlying (undT_ok h) w
theorem info_of {α : Type} {t : TypeId} {f : TypeInfo → α} {a : α} (h : (P.info? t).map f = some a) : ∃ i, P.info? t = some i ∧ f i = a := by
  cases e : P.info? t with
  | none => rw [e] at h; cases h
  | some i => rw [e] at h; exact ⟨i, rfl, Option.some.inj h⟩
theorem szT_run {t : TypeId} {n : Nat} (h : szT P t = .ok n) (w : World) : (sizeOf t).run P w = .ok n w := by
  obtain ⟨i, h1, h2⟩ := info_of (Rs.of_ok h)
  simp [sizeOf, typeInfo, h1, h2]
theorem szT_cells {t : TypeId} {n : Nat} (h : szT P t = .ok n) : P.cellsOf t = n := by
  obtain ⟨i, h1, h2⟩ := info_of (Rs.of_ok h)
  simp [Program.cellsOf, h1, h2]
theorem bytesT_run {t : TypeId} {n : Nat} (h : bytesT P t = .ok n) (w : World) : ∃ i, (typeInfo t).run P w = .ok i w ∧ i.bytes = n := by
  obtain ⟨i, h1, h2⟩ := info_of (Rs.of_ok h)
  exact ⟨i, by simp [typeInfo, h1], h2⟩
theorem zeroT_ok {t : TypeId} {z : Value} (h : zeroT P t = .ok z) : (∀ w, (zeroValue t).run P w = .ok z w) ∧ Flat z := by
  obtain ⟨z', h1, h2⟩ := Rs.bind_ok h
  obtain ⟨h3, h4⟩ := ifb_no h2
  cases h4
  have h1 := Rs.of_ok h1
  constructor
  · intro w
    cases e : P.info? t with
    | none => rw [e] at h1; cases h1
    | some i =>
      rw [e] at h1
      have : i.zero = some z := h1
      simp [zeroValue, typeInfo, e, this]
  · unfold flatB at h3
    split at h3
    · rw [List.all_eq_true] at h3
      exact .agg fun i v hv => constOk_flat (h3 v (Array.mem_toList_iff.2 (Array.mem_of_getElem? hv)))
    · exact constOk_flat h3
theorem aggT_run {t : TypeId} {b : Bool} (h : aggT P t = .ok b) (w : World) : (isAgg t).run P w = .ok b w := by
  obtain ⟨u, h1, h2⟩ := Rs.bind_ok h
  have := undT_run h1 w
  unfold isAgg
  rw [Sem.run_bind, this]
  simp only [Result.andThen_ok]
  split at h2 <;> cases h2
  · rfl
  · rfl
  · split
    · simp_all
    · simp_all
    · rfl
end types

section maps
variable {φ : Phi}
theorem mapR_ok {α : Type} {f : α → Rs Value} {g : α → Value} (hf : ∀ a v, f a = .ok v → VRel φ v (g a)) : ∀ {l : List α} {vs : List Value}, mapR f l = .ok vs → LRel φ vs (l.map g)
  | [], vs, h => by cases h; exact .nil φ
  | a :: l, vs, h => by
    obtain ⟨v, h1, h2⟩ := Rs.bind_ok h
    obtain ⟨us, h3, h4⟩ := Rs.bind_ok h2
    cases h4
    exact .cons (hf _ _ h1) (mapR_ok hf h3)
end maps

section
variable {P : Program} {φ : Phi} {h : Tr AObj} {w : World}

theorem run_v {s : Sem Value} {v : Value} {w w' : World} (h : s.run P w = .ok v w') : (do pure (Next.value (← s)) : Sem Next).run P w = .ok (.value v) w' := by simp [h]

/-- the value of an operation that changes nothing -/
def Gives (P : Program) (φ : Phi) (w : World) (s : Sem Value) (v : Value) : Prop := ∃ v', s.run P w = .ok v' w ∧ VRel φ v v'

theorem aInt_ok {op : BinOp} {k : IntKind} {a b : Int} {v : Value} (e : aInt op k a b = .ok v) (t : TypeId) (hs : op ≠ .shl ∧ op ≠ .shr) : (binOp op t (.int k a) (.int k b)).run P w = .ok v w ∧ VRel φ v v := by
  cases op <;> simp only [aInt] at e <;> first
    | (exact absurd rfl hs.1) | (exact absurd rfl hs.2)
    | (rw [intR_eq] at e; cases e
       first
         | (rw [iAdd_eq]; exact ⟨by simp [binOp, Op.intArith], .int _ _⟩)
         | (rw [iSub_eq]; exact ⟨by simp [binOp, Op.intArith], .int _ _⟩)
         | (rw [iMul_eq]; exact ⟨by simp [binOp, Op.intArith], .int _ _⟩)
         | (rw [iAnd_eq]; exact ⟨by simp [binOp, Op.intBits], .int _ _⟩)
         | (rw [iOr_eq]; exact ⟨by simp [binOp, Op.intBits], .int _ _⟩)
         | (rw [iXor_eq]; exact ⟨by simp [binOp, Op.intBits], .int _ _⟩)
         | (unfold iBits; exact ⟨by simp [binOp, Op.intBits], .int _ _⟩))
    | (obtain ⟨e1, e2⟩ := ifb_no' e
       rw [iBeq_eq] at e1
       have hb : b ≠ 0 := by simpa using e1
       rw [intR_eq] at e2; cases e2
       first
         | (rw [iQuo_eq]; exact ⟨by simp [binOp, Op.intDiv, hb], .int _ _⟩)
         | (rw [iRem_eq]; exact ⟨by simp [binOp, Op.intDiv, hb], .int _ _⟩))
    | (cases e
       first
         | (rw [iBeq_eq]; exact ⟨by simp [binOp, Op.intCmp, bne], .bool _⟩)
         | (rw [iBlt_eq]; exact ⟨by simp [binOp, Op.intCmp], .bool _⟩)
         | (rw [iBle_eq]; exact ⟨by simp [binOp, Op.intCmp], .bool _⟩))
theorem aShift_ok {op : BinOp} {k j : IntKind} {a b : Int} {v : Value} (e : aShift op k a b = .ok v) (t : TypeId) : (binOp op t (.int k a) (.int j b)).run P w = .ok v w ∧ VRel φ v v := by
  cases b with
  | negSucc n => cases e
  | ofNat n =>
    have e' : aShift2 op k a n = .ok v := e
    have hn : ¬ ((n : Int) < 0) := by omega
    cases op <;> simp only [aShift2] at e' <;> first
      | cases e'; done
      | (rw [intR_eq] at e'; cases e'
         first
           | (rw [iShl_eq]; exact ⟨by simp [binOp, Op.shift, hn], .int _ _⟩)
           | (rw [iShr_eq]; exact ⟨by simp [binOp, Op.shift, hn], .int _ _⟩))
theorem aStr_ok {op : BinOp} {a b : ByteArray} {v : Value} (e : aStr op a.data.toList b.data.toList = .ok v) (t : TypeId) : (binOp op t (.string a) (.string b)).run P w = .ok v w ∧ VRel φ v v := by
  have hs : (binOp op t (.string a) (.string b)) = Op.stringOp op a b := by cases op <;> rfl
  rw [hs]
  unfold Op.stringOp
  simp only [Lib.toList_data]
  have hsz : ∀ s : ByteArray, s.size = s.data.toList.length := fun s => (Array.length_toList (xs := s.data)).symm
  cases op <;> simp only [aStr, bEq_eq, bLess_eq] at e <;> first
    | (cases e; done)
    | (cases e; exact ⟨rfl, .bool _⟩)
    | (obtain ⟨h1, h2⟩ := ifb_no e
       cases h2
       have h1' : a.data.toList.length + b.data.toList.length < 9223372036854775808 := by simpa using h1
       have hle : ¬ (((a.size + b.size : Nat) : Int) > IntKind.i64.max) := by
         have : IntKind.i64.max = 9223372036854775807 := rfl
         rw [hsz, hsz, this]
         omega
       rw [if_neg hle]
       have : (a ++ b) = ⟨⟨a.data.toList ++ b.data.toList⟩⟩ := by
         apply ByteArray.ext
         simp
       rw [this]
       exact ⟨rfl, .string _⟩)

/-- what a block looks like to the model -/
theorem HF.cellsAt {f : Nat → Option AObj} (hm : HF φ f w) {b : Nat} {l : List Value} {e : TypeId} {s : Nat} {opn : Bool} {fz : Nat × Nat} {L : Loc} (hb : f b = some (.cells l e s opn fz)) (hL : φ b = some L) :
    ∃ c fr, w.heap[L.blk]? = some (.cells c e fr) ∧ CellsAt φ L l c ∧ FrozenAt L l.length fz fr ∧ (opn = false → L.base = 0 ∧ c.size = l.length) ∧
      (opn = true → s = L.s ∧ 0 < s ∧ L.base + L.cap * s ≤ c.size ∧ l.length ≤ L.cap * s ∧ FrozenAt L (L.cap * s) fz fr ∧ ∀ i, i < L.cap * s → ∃ v, c[L.base + i]? = some v) := by
  obtain ⟨o, h1, h2⟩ := hm.objAt hb hL
  cases h2 with
  | closed hb' hn hc hf => exact ⟨_, _, h1, hc, hf, fun _ => ⟨hb', hn⟩, fun x => by cases x⟩
  | room hs hn hl hc hf ho => exact ⟨_, _, h1, hc, ⟨fun i hi => hf.1 i (by omega), hf.2.1, hf.2.2.1, fun e => (hf.2.2.2 e).imp id fun x => by omega⟩, fun x => (by cases x), fun _ => ⟨rfl, hs, hn, hl, hf, ho⟩⟩
theorem constAt (hm : HRel φ h w) {b : Nat} {l : List Value} {e : TypeId} {L : Loc} (hb : h.get b = some (.const l e)) (hL : φ b = some L) :
    ∃ c e' fr, w.heap[L.blk]? = some (.cells c e' fr) ∧ CellsAt φ L l c := by
  obtain ⟨o, h1, h2⟩ := hm.objAt hb hL
  cases h2 with
  | const hb' hc => exact ⟨_, _, _, h1, hc⟩
theorem cell_of {b : Nat} {c : Array Value} {e : TypeId} {fr : Nat × Nat} (h1 : w.heap[b]? = some (.cells c e fr)) (o : Nat) : w.cell? ⟨b, o, none⟩ = c[o]? := by simp [World.cell?, h1]
theorem frozen_of {b : Nat} {c : Array Value} {e : TypeId} {fr : Nat × Nat} (h1 : w.heap[b]? = some (.cells c e fr)) (o : Nat) : w.frozen? ⟨b, o, none⟩ = (decide (fr.1 ≤ o) && decide (o < fr.2)) := by simp [World.frozen?, h1]
theorem shape_of {b : Nat} {c : Array Value} {e : TypeId} {fr : Nat × Nat} (h1 : w.heap[b]? = some (.cells c e fr)) : w.shape? b = some (e, c.size) := by simp [World.shape?, h1]

/-- a block that is no bytes of a string -/
theorem ptrOk_at (hm : HRel φ h w) {b : Nat} {L : Loc} (hp : ptrOk h b = true) (hL : φ b = some L) : ∃ c e fr, w.heap[L.blk]? = some (.cells c e fr) ∧ 0 < c.size ∧ ¬ fr.1 < fr.2 := by
  unfold ptrOk at hp
  split at hp
  · rename_i v l e s opn hb
    obtain ⟨c, fr, h1, h2, h3, _⟩ := hm.cellsAt hb hL
    obtain ⟨v', h4, _⟩ := h2 0 v rfl
    refine ⟨c, e, fr, h1, ?_, fun hf => ?_⟩
    · have := (Array.getElem?_eq_some_iff.1 h4).1; omega
    · have := h3.2.1 (by decide) hf
      simp at this; omega
  · cases hp
theorem aSame_ok (hm : HRel φ h w) {a b : Addr} {a' b' : Addr} {r : Bool} (e : aSame h a b = .ok r) (ha : VRel φ (.pointer (some a)) (.pointer (some a'))) (hb : VRel φ (.pointer (some b)) (.pointer (some b'))) :
    (sameAddr a' b').run P w = .ok r w := by
  cases ha with
  | ptr o hL =>
    cases hb with
    | ptr p hM =>
      rename_i x L y M
      unfold aSame at e
      simp only at e
      rcases ifb_ok e with ⟨e1, e2⟩ | ⟨e1, e2⟩
      · obtain ⟨e3, e4⟩ := ifb_no e2
        cases e4
        have exy : x = y := by simpa using e1
        subst exy
        rw [hL] at hM
        obtain rfl := Option.some.inj hM
        unfold sameAddr
        have : ((⟨L.blk, L.base + o, none⟩ : Addr) == ⟨L.blk, L.base + p, none⟩) = Nat.beq o p := by
          rw [Bool.eq_iff_iff, beq_iff_eq, Nat.beq_eq]
          simp
        simp only [beq_self_eq_true, if_true]
        rw [← this]
        rfl
      · obtain ⟨e3, e4⟩ := ifb_no e2
        obtain ⟨e5, e6⟩ := ifb_no e4
        cases e6
        obtain ⟨c, t, fr, h1, h2, h3⟩ := ptrOk_at hm e3 hL
        obtain ⟨c', t', fr', h1', h2', h3'⟩ := ptrOk_at hm e5 hM
        have hne : L.blk ≠ M.blk := fun hh => by
          have hx : ∃ z, h.get x = some z := by
            unfold ptrOk at e3; split at e3
            · exact ⟨_, by assumption⟩
            · cases e3
          have hy : ∃ z, h.get y = some z := by
            unfold ptrOk at e5; split at e5
            · exact ⟨_, by assumption⟩
            · cases e5
          obtain ⟨z, hx⟩ := hx
          obtain ⟨u, hy⟩ := hy
          have := hm.inj x y z u L M hx hy hL hM hh
          subst this
          simp at e1
        have f1 : ∀ i, w.frozen? ⟨L.blk, i, none⟩ = false := fun i => by rw [frozen_of h1]; simp; omega
        have f2 : ∀ i, w.frozen? ⟨M.blk, i, none⟩ = false := fun i => by rw [frozen_of h1']; simp; omega
        unfold sameAddr noView viewAt mayBeOne stringish
        simp [hne, f1, f2, shape_of h1, shape_of h1']
theorem part_run {t : TypeId} {cs cs' : List Value} {off : Nat} {v : Value} (e : part P t cs off = .ok v) (hc : LRel φ cs cs') :
    ∃ v', (Go.part t ⟨cs'⟩ off).run P w = .ok v' w ∧ VRel φ v v' := by
  obtain ⟨g, h1, h2⟩ := Rs.bind_ok e
  have hg := aggT_run h1 w
  unfold Go.part
  rw [Sem.run_bind, hg]
  cases g with
  | true =>
    obtain ⟨n, h3, h4⟩ := Rs.bind_ok h2
    obtain ⟨l, h5, h6⟩ := Rs.bind_ok h4
    cases h6
    obtain ⟨hl, rfl⟩ := cutN_some (Rs.of_ok h5)
    simp only [Result.andThen_ok, if_true, Sem.run_bind, szT_run h3 w, Sem.run_pure]
    refine ⟨_, rfl, ?_⟩
    have hk := (hc.drop off).take n
    have : ((⟨cs'⟩ : Array Value).extract off (off + n)).toList = (cs'.drop off).take n := by
      simp [List.extract_eq_take_drop]
    have hk' : LRel φ (⟨(cs.drop off).take n⟩ : Array Value).toList ((⟨cs'⟩ : Array Value).extract off (off + n)).toList := by rw [this]; exact hk
    exact .agg hk'.arr.1 hk'.arr.2
  | false =>
    have h2 := Rs.of_ok h2
    simp only [Result.andThen_ok, Bool.false_eq_true, if_false]
    cases hcut : cutN cs off 1 with
    | none => rw [hcut] at h2; cases h2
    | some l =>
      rw [hcut] at h2
      obtain ⟨hl, rfl⟩ := cutN_some hcut
      have hv : cs[off]? = some v := by
        have h2' : ((cs.drop off).take 1).head? = some v := h2
        rw [List.head?_take] at h2'
        simpa [List.head?_drop] using h2'
      obtain ⟨v', hv', hr⟩ := hc.get hv
      have : (⟨cs'⟩ : Array Value)[off]? = some v' := by simpa using hv'
      rw [this]
      exact ⟨v', rfl, hr⟩
end
end Go.Proofs.YtbakhdgiimjnkaaGreatDoor.Abs
