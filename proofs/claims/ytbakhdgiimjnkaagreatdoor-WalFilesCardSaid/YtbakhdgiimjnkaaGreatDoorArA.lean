/-
  The evaluator and what is proved of it (several texts in one).
-/
import Derived.Test.YtbakhdgiimjnkaaGreatDoorBase
import Derived.ProofKit
import Derived.OpenShut
import Derived.SizedLaws
import Derived.Carry
import Derived.Deep.Slices
import Derived.Lib.SmallJoins
import Derived.Test.YtbakhdgiimjnkaaGreatDoorAbsArgs
import Derived.Test.YtbakhdgiimjnkaaGreatDoorEvB
set_option linter.unusedVariables false
set_option linter.unusedSimpArgs false
/-
  From a walk to the row: a law whose walk returns true and turns nothing that was there meets its given statement. No law in sight.
-/
namespace Go.Proofs.YtbakhdgiimjnkaaGreatDoor
open Go.ChangeShapes Go.WideShapes Go.ChangeAt Go.RowKit

section
variable {α : Type}
theorem len2 {l : List α} (h : l.length = 2) : ∃ a b, l = [a, b] := by match l, h with | [a, b], _ => exact ⟨a, b, rfl⟩
end

section
variable {H : Type} {enc : TypeId × Value → H} {P : Program}

theorem trodAll_below (hl : laidOutB P = true) {W W' : World} (hb : Below W.heap.size W W') : ∀ {ts : List TypeId} {vs : List Value} {ds : List (DataW H)} {ps : List MemPlace},
    (∀ t ∈ ts, P.readableRec t = true ∧ t < P.types.size) → DataW.TrodAll enc P W 0 (fun _ => true) true ts vs ds ps → (∀ x ∈ ps, x.block < W.heap.size) →
    DataW.TrodAll enc P W' 0 (fun b => decide (b < W.heap.size)) true ts vs ds ps
  | [], vs, ds, ps, _, h, _ => by
    obtain ⟨rfl, rfl, rfl⟩ := trodAll_nil h
    exact trodAll_mk0
  | t :: ts, vs, ds, ps, hr, h, hlt => by
    obtain ⟨v, vs', d, ds', p, q, rfl, rfl, rfl, hd, hrest⟩ := trodAll_cons h
    have h1 := hr t (by simp)
    exact ⟨p, q, Below.trod hl h1.1 h1.2 hd hb (fun x hx => hlt x (by simp [hx])), trodAll_below hl hb (fun t' ht' => hr t' (by simp [ht'])) hrest (fun x hx => hlt x (by simp [hx])), rfl⟩

theorem trodAll_length : ∀ {W : World} {b : Nat} {sp : Nat → Bool} {hd : Bool} {ts : List TypeId} {vs : List Value} {ds : List (DataW H)} {ps : List MemPlace},
    DataW.TrodAll enc P W b sp hd ts vs ds ps → ds.length = ts.length
  | _, _, _, _, [], _, _, _, h => by
    obtain ⟨_, rfl, _⟩ := trodAll_nil h
    rfl
  | _, _, _, _, _ :: _, _, _, _, h => by
    obtain ⟨v, vs', d, ds', p, q, rfl, rfl, rfl, hd, hrest⟩ := trodAll_cons h
    simp [trodAll_length hrest]

theorem law_post {fn : Func} {s : ChangeSpec} {B : TypeId} {W W' : World} {args : Array Value} {ds gs : List (DataW H)} {before : List MemPlace}
    (hl : laidOutB P = true) (hr : ∀ t ∈ fn.params.toList, P.readableRec t = true ∧ t < P.types.size) (hv : s.vars = []) (hres : fn.resultTypes = #[B]) (hB : P.underlying B = some .bool)
    (hs : ∀ ds : List (DataW H), ds.length = fn.params.toList.length → (s.fn H (ds ++ [])).results = [.lit (.bool true)] ∧ (s.fn H (ds ++ [])).args = ds ∧ (s.fn H (ds ++ [])).vars = [])
    (hW : DataW.Whole enc P fn.params.toList s.vars false W args.toList ds gs before) (hm : Mod (fun _ => False) W W') :
    s.post enc P fn false true false false W args (.bool true) W' := by
  have hb : Below W.heap.size W W' := hm.below (fun _ _ h => h.elim) (Nat.le_refl _)
  have hlt : ∀ p ∈ before, p.block < W.heap.size := fun p hp => hW.lt p hp
  have hW0 := hW
  obtain ⟨p, q, hA, hV, rfl, hfz, _⟩ := hW
  rw [hv] at hV
  obtain ⟨rfl, rfl⟩ := trodVars_none hV
  obtain ⟨h1, h2, h3⟩ := hs ds (trodAll_length hA)
  refine ⟨ds, [], _, [], p, [], hW0, ?_, ?_, ?_, ?_, fun h => by cases h⟩
  · rw [h1, hres]
    exact trodAll_mk1 (shut_bool hB true)
  · rw [h2]
    exact trodAll_below hl hb hr hA (fun x hx => hlt x (by simp [hx]))
  · rw [hv, h3]
    rfl
  · exact World.keptBut_mono (fun x hx => ⟨hx, Or.inr (Or.inl (by simpa using hx))⟩) (hb.frame (· ∈ p ++ []))

end
end Go.Proofs.YtbakhdgiimjnkaaGreatDoor

/-
  How a law's arguments read as Lean data: a slice of whatever elements as a list. No law in sight.
-/
namespace Go.Proofs.YtbakhdgiimjnkaaGreatDoor
open Go.ChangeShapes Go.WideShapes Go.ChangeAt Go.RowKit Go.Deep

theorem bd_u8 {n : Int} (h : (Lit.int .u8 n).wf = true) : 0 ≤ n ∧ n ≤ 255 := by
  simpa [Lit.wf, IntKind.min, IntKind.max, IntKind.signed, IntKind.bits] using h

theorem list_of_forall {α : Type} {Q : Nat → α → Prop} : ∀ n, (∀ i, i < n → ∃ a, Q i a) → ∃ l : List α, l.length = n ∧ ∀ i (h : i < l.length), Q i l[i]
  | 0, _ => ⟨[], rfl, fun i h => absurd h (by simp)⟩
  | n + 1, h => by
    obtain ⟨l, hl, hq⟩ := list_of_forall n (fun i hi => h i (by omega))
    obtain ⟨a, ha⟩ := h n (by omega)
    refine ⟨l ++ [a], by simp [hl], fun i hi => ?_⟩
    by_cases c : i < l.length
    · rw [List.getElem_append_left c]
      exact hq i c
    · have : i = l.length := by simp at hi; omega
      subst this
      rw [List.getElem_append_right (by omega)]
      simpa [hl] using ha

theorem cell_lt {w : World} {a : Addr} {v : Value} (h : w.cell? a = some v) : a.block < w.heap.size ∧ a.spot = none := by
  unfold World.cell? at h
  split at h
  · rename_i c _ _ hb
    refine ⟨?_, ?_⟩
    · rcases Nat.lt_or_ge a.block w.heap.size with x | x
      · exact x
      · rw [Array.getElem?_eq_none x] at hb
        cases hb
    · cases hs : a.spot with
      | none => rfl
      | some s => simp [hs] at h
  · cases h

theorem add_block (a : Addr) (n : Nat) : (a.add n).block = a.block := by unfold Addr.add; split <;> rfl

/-- A slice that reads: its length is the list's; element i lies at its place and reads as l[i]. -/
def SliceRd {α : Type} (w : World) (size : Nat) (R : List Value → α → Prop) (A : Option Addr) (l : List α) : Prop :=
  ∀ i (h : i < l.length), ∃ b off cs, A = some ⟨b, off, none⟩ ∧ b < w.heap.size ∧ cs.length = size ∧ (∀ j, j < size → w.cell? ⟨b, off + i * size + j, none⟩ = cs[j]?) ∧ R cs l[i]

section
variable {H : Type} {enc : TypeId × Value → H} {P : Program} {w : World} {base : Nat} {spare : Nat → Bool} {held : Bool}

end
end Go.Proofs.YtbakhdgiimjnkaaGreatDoor

/-
  How a law's arguments read as Lean data, with the form's own reach: the bounds on what is inside a slice or a struct. No law in sight.
-/
namespace Go.Proofs.YtbakhdgiimjnkaaGreatDoor
open Go.ChangeShapes Go.WideShapes Go.ChangeAt Go.RowKit Go.Deep

section
variable {H : Type} {enc : TypeId × Value → H} {P : Program} {w : World} {base : Nat} {spare : Nat → Bool} {held : Bool}

/-- all that a datum weighs is within a bound -/
def Within (P : Program) (B : Nat) (t : TypeId) (d : DataW H) : Prop := ∀ m ∈ d.weights P t, m ≤ B

theorem weightsAll_mem {e : TypeId} {d : DataW H} {m : Nat} : ∀ {l : List (DataW H)}, d ∈ l → m ∈ d.weights P e → m ∈ DataW.weightsAll P e l
  | a :: l, h, hm => by
    simp only [DataW.weightsAll, List.mem_append]
    rcases List.mem_cons.1 h with rfl | h
    · exact .inl hm
    · exact .inr (weightsAll_mem h hm)

theorem Within.of_all {ts : List TypeId} {ds : List (DataW H)} (h : (DataW.weightsEach P ts ds).all (· ≤ reachBytes) = true) {j : Nat} {t : TypeId} {d : DataW H} (ht : ts[j]? = some t) (hd : ds[j]? = some d) : Within P reachBytes t d :=
  fun m hm => by simpa using List.all_eq_true.1 h m (DataW.weights_mem_each ht hd m hm)
theorem Within.string {B : Nat} {t : TypeId} {bs : List UInt8} (h : Within (H := H) P B t (.lit (.string bs))) : bs.length ≤ B := h _ (by simp [DataW.weights])

theorem Within.text {t : TypeId} {s : ByteArray} (h : Within (H := H) P reachBytes t (.lit (.string s.data.toList))) : s.size ≤ 140737488351232 := by
  have h1 := h.string
  rw [Array.length_toList] at h1
  exact h1

theorem open_slice_rdw {α : Type} {R : List Value → α → Prop} {t e : TypeId} {fuel B : Nat} {cs : List Value} {x : DataW H × List MemPlace} {size : Nat} (ht : P.underlying t = some (.slice e)) (hsz : P.cellsOf e = size) (hpos : 0 < size)
    (hW : Within P B t x.1) (hR : ∀ n cs' y, DataW.trod enc P w base spare held n e cs' = some y → Within P B e y.1 → ∃ a, R cs' a)
    (h : DataW.trod enc P w base spare held fuel t cs = some x) :
    ∃ (A : Option Addr) (len cap : Nat) (l : List α), cs = [.slice A len cap] ∧ l.length = len ∧ len ≤ cap ∧ cap ≤ maxLen ∧ len * P.bytesOf e ≤ B ∧ SliceRd w size R A l := by
  rcases open_slice ht h with ⟨hcs, hx⟩ | ⟨a, len, cap, m, n, D, Pl, hcs, _, hl, hm, hmm, hx, hi⟩
  · exact ⟨none, 0, 0, [], hcs, rfl, Nat.le_refl _, by unfold maxLen; omega, by omega, fun i h => absurd h (by simp)⟩
  · have hlm : len ≤ m := by rw [hmm]; split <;> omega
    have hbytes : len * P.bytesOf e ≤ B := by
      subst hx
      have := hW ((len + (m - len)) * P.bytesOf e) (by simp [DataW.weights, ht])
      exact Nat.le_trans (Nat.mul_le_mul_right _ (by omega)) this
    have hwi : ∀ i, i < len → Within P B e (D i) := fun i hil k hk => by
      refine hW k ?_
      subst hx
      simp only [DataW.weights, ht, List.mem_cons, List.mem_append]
      exact .inr (.inl (weightsAll_mem (List.mem_map.2 ⟨i, List.mem_range.2 hil, rfl⟩) hk))
    have hQ : ∀ i, i < len → ∃ y : α, ∃ b off cs', some a = some ⟨b, off, none⟩ ∧ b < w.heap.size ∧ cs'.length = size ∧ (∀ j, j < size → w.cell? ⟨b, off + i * size + j, none⟩ = cs'[j]?) ∧ R cs' y := by
      intro i hil
      obtain ⟨cs', hc, htr⟩ := hi i (by omega)
      rw [hsz] at hc
      obtain ⟨_, hlen, hcell⟩ := World.cells?_some hc
      obtain ⟨y, hy⟩ := hR _ _ _ htr (hwi i hil)
      have h0 := hcell 0 hpos
      obtain ⟨v0, hv0⟩ : ∃ v, cs'[0]? = some v := ⟨cs'[0]'(by omega), List.getElem?_eq_getElem (by omega)⟩
      rw [hv0] at h0
      obtain ⟨hlt, _⟩ := cell_lt h0
      obtain ⟨b, off, spot⟩ := a
      have hsp : spot = none := by
        obtain ⟨c0, hc0, htr0⟩ := hi 0 (by omega)
        rw [hsz] at hc0
        obtain ⟨_, hlen0, hcell0⟩ := World.cells?_some hc0
        have h00 := hcell0 0 hpos
        obtain ⟨u0, hu0⟩ : ∃ v, c0[0]? = some v := ⟨c0[0]'(by omega), List.getElem?_eq_getElem (by omega)⟩
        rw [hu0] at h00
        have := (cell_lt h00).2
        simpa [Addr.add] using this
      subst hsp
      refine ⟨y, b, off, cs', rfl, by simpa [add_block] using hlt, hlen, fun j hj => ?_, hy⟩
      rw [← hcell j hj]
      congr 1
      unfold Addr.add
      by_cases c1 : i * size = 0 <;> by_cases c2 : j = 0 <;> simp [c1, c2]
    obtain ⟨l, hll, hq⟩ := list_of_forall len hQ
    exact ⟨some a, len, cap, l, hcs, hll, hl, hm, hbytes, fun i h => hq i h⟩

end
end Go.Proofs.YtbakhdgiimjnkaaGreatDoor

/-
  A law's arguments, as the evaluator holds them. No law in sight.
-/
namespace Go.Proofs.YtbakhdgiimjnkaaGreatDoor
open Go.ChangeShapes Go.WideShapes Go.ChangeAt Go.RowKit Go.Deep
section
variable {P : Program} {W : World}
theorem cells_at {b : Nat} {c : Array Value} {t : TypeId} {fr : Nat × Nat} (h : W.heap[b]? = some (.cells c t fr)) (i : Nat) : W.cell? ⟨b, i, none⟩ = c[i]? := by
  unfold World.cell?
  rw [h]
  rfl
end
end Go.Proofs.YtbakhdgiimjnkaaGreatDoor

/-
  A law's arguments, put into the evaluator's first state one behind the other: each slice has a block of its own (a window on the world's). No law in sight.
-/
namespace Go.Proofs.YtbakhdgiimjnkaaGreatDoor.Abs
open Go.ChangeShapes Go.WideShapes Go.ChangeAt Go.RowKit Go.Deep
section
variable {W : World}
/-- what has been put so far -/
structure Put (W : World) (l : List (List Value × TypeId)) (locs : List (Nat × Nat)) : Prop where
  len : locs.length = l.length
  ok : ∀ (i : Nat) (a : List Value × TypeId) (p : Nat × Nat), l[i]? = some a → locs[i]? = some p → ∃ c t fr, W.heap[p.1]? = some (.cells c t fr) ∧ ∀ (j : Nat) (v : Value), a.1[j]? = some v → ∃ v', c[p.2 + j]? = some v' ∧ VRel (phiArgs locs) v v'
theorem Put.nil : Put W [] [] := ⟨rfl, fun i a p h => by simp at h⟩
theorem phiArgs_le (locs more : List (Nat × Nat)) : (phiArgs locs).le (phiArgs (locs ++ more)) := fun b L h => by
  unfold phiArgs at h ⊢
  split
  · rename_i hb
    rw [if_pos hb] at h
    exact h
  · rename_i hb
    rw [if_neg hb] at h
    obtain ⟨p, h1, h2⟩ := Option.map_eq_some_iff.1 h
    rw [List.getElem?_append_left (List.getElem?_eq_some_iff.1 h1).1, h1]
    exact congrArg some h2
theorem stArgs_le {tabs : List (Nat × List Value × TypeId)} (ht : ∀ t ∈ tabs, t.1 < 4096) (l more : List (List Value × TypeId)) : ∀ b x, (stArgs tabs l).heap.get b = some x → (stArgs tabs (l ++ more)).heap.get b = some x := fun b x h => by
  rcases stArgs_get ht h with ⟨h0, h1⟩ | ⟨i, a, rfl, h1, rfl⟩
  · rw [stArgs_old h0, h1]
  · exact stArgs_arg (by rw [List.getElem?_append_left (List.getElem?_eq_some_iff.1 h1).1, h1])
/-- on from one state of things to the next -/
structure On (l : List (List Value × TypeId)) (locs : List (Nat × Nat)) (l' : List (List Value × TypeId)) (locs' : List (Nat × Nat)) : Prop where
  l : ∃ m, l' = l ++ m
  locs : ∃ m, locs' = locs ++ m
theorem On.refl (l : List (List Value × TypeId)) (locs : List (Nat × Nat)) : On l locs l locs := ⟨⟨[], (List.append_nil _).symm⟩, ⟨[], (List.append_nil _).symm⟩⟩
theorem On.trans {l l' l'' : List (List Value × TypeId)} {q q' q'' : List (Nat × Nat)} (h : On l q l' q') (k : On l' q' l'' q'') : On l q l'' q'' := by
  obtain ⟨m, rfl⟩ := h.l
  obtain ⟨m', rfl⟩ := k.l
  obtain ⟨n, rfl⟩ := h.locs
  obtain ⟨n', rfl⟩ := k.locs
  exact ⟨⟨m ++ m', List.append_assoc _ _ _⟩, ⟨n ++ n', List.append_assoc _ _ _⟩⟩
theorem On.le {l l' : List (List Value × TypeId)} {q q' : List (Nat × Nat)} (h : On l q l' q') : (phiArgs q).le (phiArgs q') := by
  obtain ⟨n, rfl⟩ := h.locs
  exact phiArgs_le _ _
theorem On.old {l l' : List (List Value × TypeId)} {q q' : List (Nat × Nat)} (h : On l q l' q') {tabs : List (Nat × List Value × TypeId)} (ht : ∀ t ∈ tabs, t.1 < 4096) : ∀ b x, (stArgs tabs l).heap.get b = some x → (stArgs tabs l').heap.get b = some x := by
  obtain ⟨n, rfl⟩ := h.l
  exact stArgs_le ht _ _
/-- what a slice that is handed in is -/
def SliceOk (W : World) (A : Option Addr) (n c : Nat) : Prop := (A = none → n = 0 ∧ c = 0) ∧ ∀ a, A = some a → n = 0 ∧ c = 0 ∨ ∃ b off, a = ⟨b, off, none⟩ ∧ (∃ cs u fr, W.heap[b]? = some (.cells cs u fr)) ∧ n ≤ c ∧ c ≤ 9223372036854775807
/-- A SLICE IS PUT. -/
theorem put_slice {tabs : List (Nat × List Value × TypeId)} (htb : ∃ b ws e, b < 4096 ∧ (stTabs tabs).heap.get b = some (.const ws e)) {l : List (List Value × TypeId)} {q : List (Nat × Nat)} (hP : Put W l q) {A : Option Addr} {n c sz : Nat} (hA : SliceOk W A n c) {cs : List Value} (hlen : cs.length = n * sz)
    (hc : ∀ b off, A = some ⟨b, off, none⟩ → ∀ (j : Nat) (v : Value), cs[j]? = some v → ∃ v', W.cell? ⟨b, off + j, none⟩ = some v' ∧ VRel (phiArgs q) v v') (e : TypeId) :
    ∃ l' q' sv, On l q l' q' ∧ Put W l' q' ∧ VRel (phiArgs q') sv (.slice A n c) ∧ (∃ a c', sv = .slice a n c') ∧ srcCells (stArgs tabs l').heap sz sv = .ok (n, cs) := by
  obtain ⟨h0, hs⟩ := hA
  cases A with
  | none =>
    obtain ⟨rfl, rfl⟩ := h0 rfl
    rw [Nat.zero_mul] at hlen
    obtain rfl := List.eq_nil_of_length_eq_zero hlen
    exact ⟨l, q, .slice none 0 0, .refl _ _, hP, .nilSlice, ⟨_, _, rfl⟩, rfl⟩
  | some a =>
    rcases hs a rfl with ⟨rfl, rfl⟩ | ⟨b, off, rfl, ⟨ws, u, fr, hb⟩, hnc, hcm⟩
    · obtain ⟨b0, ws0, e0, h1, h2⟩ := htb
      rw [Nat.zero_mul] at hlen
      obtain rfl := List.eq_nil_of_length_eq_zero hlen
      have hφ : phiArgs q b0 = some ⟨b0, 0, 0, 0⟩ := by unfold phiArgs; rw [if_pos h1]
      refine ⟨l, q, .slice (some ⟨b0, 0, none⟩) 0 open_, .refl _ _, hP, .full a hφ rfl, ⟨_, _, rfl⟩, ?_⟩
      show (match (stArgs tabs l).heap.get b0 with
        | some (.cells l _ _ _ _) => (Rs.of 75 (cutN l 0 (0 * sz))).bind fun cs => Rs.ok (0, cs)
        | some (.const l _) => (Rs.of 75 (cutN l 0 (0 * sz))).bind fun cs => Rs.ok (0, cs)
        | _ => .no 75 "") = _
      rw [stArgs_old h1, h2]
      show (Rs.of 75 (cutN ws0 0 (0 * sz))).bind _ = _
      rw [Nat.zero_mul, cutN_eq, if_pos (Nat.zero_le _)]
      rfl
    have hle := phiArgs_le q [(b, off)]
    have hl1 : (l ++ [(cs, e)])[l.length]? = some (cs, e) := by simp
    have hq1 : (q ++ [(b, off)])[l.length]? = some (b, off) := by rw [← hP.len]; simp
    refine ⟨l ++ [(cs, e)], q ++ [(b, off)], .slice (some ⟨4096 + l.length, 0, none⟩) n c, ⟨⟨_, rfl⟩, ⟨_, rfl⟩⟩, ⟨by simp [hP.len], fun i x p h1 h2 => ?_⟩, ?_, ⟨_, _, rfl⟩, ?_⟩
    · by_cases hi : i < l.length
      · rw [List.getElem?_append_left hi] at h1
        rw [List.getElem?_append_left (by rw [hP.len]; exact hi)] at h2
        obtain ⟨c', t', fr', h3, h4⟩ := hP.ok i x p h1 h2
        refine ⟨c', t', fr', h3, fun j v hv => ?_⟩
        obtain ⟨v', h5, h6⟩ := h4 j v hv
        exact ⟨v', h5, h6.mono hle⟩
      · have hil : i = l.length := by
          have := (List.getElem?_eq_some_iff.1 h1).1
          rw [List.length_append, List.length_singleton] at this
          omega
        subst hil
        rw [hl1] at h1
        rw [hq1] at h2
        cases h1
        cases h2
        refine ⟨ws, u, fr, hb, fun j v hv => ?_⟩
        obtain ⟨v', h5, h6⟩ := hc b off rfl j v hv
        rw [cells_at hb] at h5
        exact ⟨v', h5, h6.mono hle⟩
    · have h := VRel.slice (φ := phiArgs (q ++ [(b, off)])) (b := 4096 + l.length) (n := n) (c := c) (L := ⟨b, off, 0, 0⟩) 0 (phiArgs_at hq1) (by unfold open_; omega) hnc
      exact h
    · exact src_const (stArgs_arg hl1) hlen
/-- the cells of a slice whose elements have no slices of their own -/
theorem flatMap_cells {α : Type} {g : α → List Value} {sz : Nat} (hpos : 0 < sz) (hg : ∀ x, (g x).length = sz) (hf : ∀ x, ∀ v ∈ g x, constOk v = true) {A : Option Addr} {xs : List α} (hr : SliceRd W sz (fun cs f => cs = g f) A xs) {φ : Phi} :
    (xs.flatMap g).length = xs.length * sz ∧ ∀ b off, A = some ⟨b, off, none⟩ → ∀ (j : Nat) (v : Value), (xs.flatMap g)[j]? = some v → ∃ v', W.cell? ⟨b, off + j, none⟩ = some v' ∧ VRel φ v v' := by
  have hlen : ∀ ys : List α, (ys.flatMap g).length = ys.length * sz := fun ys => by
    induction ys with
    | nil => simp
    | cons y ys ih => rw [List.flatMap_cons, List.length_append, hg, ih, List.length_cons, Nat.succ_mul, Nat.add_comm]
  refine ⟨hlen xs, fun b off hA j v hv => ⟨v, ?_, (constOk_flat ?_).rel _⟩⟩
  · have hget : ∀ (ys : List α) (j : Nat), (ys.flatMap g)[j]? = (ys[j / sz]?).bind fun f => (g f)[j % sz]? := fun ys => by
      induction ys with
      | nil => intro j; simp
      | cons y ys ih =>
        intro j
        rw [List.flatMap_cons]
        by_cases h : j < sz
        · rw [List.getElem?_append_left (by rw [hg]; exact h), Nat.div_eq_of_lt h, Nat.mod_eq_of_lt h]
          rfl
        · rw [List.getElem?_append_right (by rw [hg]; omega), hg, ih]
          obtain ⟨k, rfl⟩ : ∃ k, j = k + sz := ⟨j - sz, by omega⟩
          rw [Nat.add_sub_cancel, Nat.add_div_right _ hpos, Nat.add_mod_right]
          rfl
    rw [hget] at hv
    obtain ⟨f, hf1, hf2⟩ := Option.bind_eq_some_iff.1 hv
    obtain ⟨hi, rfl⟩ := List.getElem?_eq_some_iff.1 hf1
    obtain ⟨b', off', cs', e, _, _, hcell, rfl⟩ := hr (j / sz) hi
    rw [hA] at e
    cases e
    have := hcell (j % sz) (Nat.mod_lt _ hpos)
    rw [hf2, Nat.add_assoc, Nat.div_add_mod'] at this
    exact this
  · obtain ⟨f, _, hf2⟩ := List.mem_flatMap.1 (List.mem_of_getElem? hv)
    exact hf f v hf2
/-- a slice of such elements is put -/
theorem put_flat {tabs : List (Nat × List Value × TypeId)} (htb : ∃ b ws e, b < 4096 ∧ (stTabs tabs).heap.get b = some (.const ws e)) {l : List (List Value × TypeId)} {q : List (Nat × Nat)} (hP : Put W l q) {A : Option Addr} {n c sz : Nat} (hA : SliceOk W A n c) {α : Type} {g : α → List Value} (hpos : 0 < sz) (hg : ∀ x, (g x).length = sz) (hf : ∀ x, ∀ v ∈ g x, constOk v = true) {xs : List α} (hn : xs.length = n) (hr : SliceRd W sz (fun cs f => cs = g f) A xs) (e : TypeId) :
    ∃ l' q' sv, On l q l' q' ∧ Put W l' q' ∧ VRel (phiArgs q') sv (.slice A n c) ∧ (∃ a c', sv = .slice a n c') ∧ srcCells (stArgs tabs l').heap sz sv = .ok (n, xs.flatMap g) := by
  obtain ⟨h1, h2⟩ := flatMap_cells (φ := phiArgs q) hpos hg hf hr
  exact put_slice htb hP hA (by rw [h1, hn]) h2 e
theorem flat_len {sz : Nat} : ∀ rows : List (List Value), (∀ r ∈ rows, r.length = sz) → rows.flatten.length = rows.length * sz
  | [], _ => by simp
  | r :: rows, h => by rw [List.flatten_cons, List.length_append, h r (List.mem_cons_self ..), flat_len rows fun x hx => h x (List.mem_cons_of_mem _ hx), List.length_cons, Nat.succ_mul, Nat.add_comm]
theorem flat_get {sz : Nat} (hpos : 0 < sz) : ∀ (rows : List (List Value)), (∀ r ∈ rows, r.length = sz) → ∀ j, rows.flatten[j]? = (rows[j / sz]?).bind fun r => r[j % sz]?
  | [], _, j => by simp
  | r :: rows, h, j => by
    have hr := h r (List.mem_cons_self ..)
    rw [List.flatten_cons]
    by_cases hj : j < sz
    · rw [List.getElem?_append_left (by omega), Nat.div_eq_of_lt hj, Nat.mod_eq_of_lt hj]
      rfl
    · rw [List.getElem?_append_right (by omega), hr, flat_get hpos rows (fun x hx => h x (List.mem_cons_of_mem _ hx))]
      obtain ⟨k, rfl⟩ : ∃ k, j = k + sz := ⟨j - sz, by omega⟩
      rw [Nat.add_sub_cancel, Nat.add_div_right _ hpos, Nat.add_mod_right]
      rfl
/-- A SLICE OF ROWS IS PUT, whatever the rows hold. -/
theorem put_rows {tabs : List (Nat × List Value × TypeId)} (htb : ∃ b ws e, b < 4096 ∧ (stTabs tabs).heap.get b = some (.const ws e)) {l : List (List Value × TypeId)} {q : List (Nat × Nat)} (hP : Put W l q) {A : Option Addr} {n c sz : Nat} (hA : SliceOk W A n c) (hpos : 0 < sz)
    {α : Type} {R : List Value → α → Prop} {xs : List α} (hn : xs.length = n) (hr : SliceRd W sz R A xs) {rows : List (List Value)} (hl : rows.length = n) (hrow : ∀ r ∈ rows, r.length = sz)
    (hrel : ∀ (i : Nat) (h : i < xs.length) (h' : i < rows.length) (cs' : List Value), R cs' xs[i] → ∀ (k : Nat) (v : Value), rows[i][k]? = some v → ∃ v', cs'[k]? = some v' ∧ VRel (phiArgs q) v v') (e : TypeId) :
    ∃ l' q' sv, On l q l' q' ∧ Put W l' q' ∧ VRel (phiArgs q') sv (.slice A n c) ∧ (∃ a c', sv = .slice a n c') ∧ srcCells (stArgs tabs l').heap sz sv = .ok (n, rows.flatten) := by
  refine put_slice htb hP hA (by rw [flat_len rows hrow, hl]) (fun b off hA j v hv => ?_) e
  rw [flat_get hpos rows hrow] at hv
  obtain ⟨r, h1, h2⟩ := Option.bind_eq_some_iff.1 hv
  obtain ⟨hi, rfl⟩ := List.getElem?_eq_some_iff.1 h1
  obtain ⟨b', off', cs', e', _, _, hcell, hR⟩ := hr (j / sz) (by omega)
  rw [hA] at e'
  cases e'
  obtain ⟨v', h3, h4⟩ := hrel (j / sz) (by omega) hi cs' hR (j % sz) v h2
  have := hcell (j % sz) (Nat.mod_lt _ hpos)
  rw [h3, Nat.add_assoc, Nat.div_add_mod'] at this
  exact ⟨v', this, h4⟩
theorem cell_block {w : World} {a : Addr} {v : Value} (h : w.cell? a = some v) : ∃ cs u fr, w.heap[a.block]? = some (.cells cs u fr) := by
  unfold World.cell? at h
  split at h
  · rename_i hb
    exact ⟨_, _, _, hb⟩
  · cases h
/-- a slice that reads with all its room is one that may be put -/
theorem trod_slice_ok {H : Type} {enc : TypeId × Value → H} {P : Program} {base fuel : Nat} {held : Bool} {t e : TypeId} {cs : List Value} {x : DataW H × List MemPlace} (ht : P.underlying t = some (.slice e)) (hpos : 0 < P.cellsOf e)
    (h : DataW.trod enc P W base (fun _ => true) held fuel t cs = some x) : ∃ A n c, cs = [.slice A n c] ∧ SliceOk W A n c := by
  rcases open_slice ht h with ⟨hcs, _⟩ | ⟨a, len, cap, m, n, D, Pl, hcs, _, hl, hm, hmm, _, hi⟩
  · exact ⟨_, _, _, hcs, fun _ => ⟨rfl, rfl⟩, fun a h => by cases h⟩
  · rw [if_pos rfl] at hmm
    refine ⟨_, _, _, hcs, (fun h => by cases h), fun a' ha' => ?_⟩
    cases ha'
    by_cases hc0 : cap = 0
    · exact .inl ⟨by omega, hc0⟩
    · obtain ⟨cs', hc, _⟩ := hi 0 (by omega)
      obtain ⟨_, hlen, hcell⟩ := World.cells?_some hc
      have h0 := hcell 0 hpos
      rw [List.getElem?_eq_getElem (by omega)] at h0
      have h1 := cell_block h0
      have h2 := (cell_lt h0).2
      obtain ⟨b, off, spot⟩ := a
      have hsp : spot = none := by simpa [Addr.add] using h2
      subst hsp
      refine .inr ⟨b, off, rfl, ?_, hl, by unfold maxLen at hm; omega⟩
      simpa [add_block] using h1
end
end Go.Proofs.YtbakhdgiimjnkaaGreatDoor.Abs

