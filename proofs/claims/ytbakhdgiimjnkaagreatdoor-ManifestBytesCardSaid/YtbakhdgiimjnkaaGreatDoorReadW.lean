/-
  How a law's arguments read as Lean data, with the form's own reach: the bounds on what is inside a slice or a struct. No law in sight.
-/
import Derived.Test.YtbakhdgiimjnkaaGreatDoorRead
import Derived.SizedLaws
namespace Go.Proofs.YtbakhdgiimjnkaaGreatDoor
open Go.ChangeShapes Go.WideShapes Go.ChangeAt Go.RowKit Go.Deep

section
variable {H : Type} {enc : TypeId × Value → H} {P : Program} {w : World} {base : Nat} {spare : Nat → Bool} {held : Bool}

/-- all that a datum weighs is within a bound -/
def Within (P : Program) (B : Nat) (t : TypeId) (d : DataW H) : Prop := ∀ m ∈ d.weights P t, m ≤ B

theorem weightsAll_mem {e : TypeId} {d : DataW H} {m : Nat} : ∀ {l : List (DataW H)}, d ∈ l → m ∈ d.weights P e → m ∈ DataW.weightsAll P e l
  | a :: l, h, hm => by
    simp only [DataW.weightsAll, List.mem_append]
    rcases List.mem_cons.1 h with rfl | h
    · exact .inl hm
    · exact .inr (weightsAll_mem h hm)

theorem Within.of_all {ts : List TypeId} {ds : List (DataW H)} (h : (DataW.weightsEach P ts ds).all (· ≤ reachBytes) = true) {j : Nat} {t : TypeId} {d : DataW H} (ht : ts[j]? = some t) (hd : ds[j]? = some d) : Within P reachBytes t d :=
  fun m hm => by simpa using List.all_eq_true.1 h m (DataW.weights_mem_each ht hd m hm)
theorem Within.string {B : Nat} {t : TypeId} {bs : List UInt8} (h : Within (H := H) P B t (.lit (.string bs))) : bs.length ≤ B := h _ (by simp [DataW.weights])

theorem Within.text {t : TypeId} {s : ByteArray} (h : Within (H := H) P reachBytes t (.lit (.string s.data.toList))) : s.size ≤ 140737488351232 := by
  have h1 := h.string
  rw [Array.length_toList] at h1
  exact h1

theorem open_slice_rdw {α : Type} {R : List Value → α → Prop} {t e : TypeId} {fuel B : Nat} {cs : List Value} {x : DataW H × List MemPlace} {size : Nat} (ht : P.underlying t = some (.slice e)) (hsz : P.cellsOf e = size) (hpos : 0 < size)
    (hW : Within P B t x.1) (hR : ∀ n cs' y, DataW.trod enc P w base spare held n e cs' = some y → Within P B e y.1 → ∃ a, R cs' a)
    (h : DataW.trod enc P w base spare held fuel t cs = some x) :
    ∃ (A : Option Addr) (len cap : Nat) (l : List α), cs = [.slice A len cap] ∧ l.length = len ∧ len ≤ cap ∧ cap ≤ maxLen ∧ len * P.bytesOf e ≤ B ∧ SliceRd w size R A l := by
  rcases open_slice ht h with ⟨hcs, hx⟩ | ⟨a, len, cap, m, n, D, Pl, hcs, _, hl, hm, hmm, hx, hi⟩
  · exact ⟨none, 0, 0, [], hcs, rfl, Nat.le_refl _, by unfold maxLen; omega, by omega, fun i h => absurd h (by simp)⟩
  · have hlm : len ≤ m := by rw [hmm]; split <;> omega
    have hbytes : len * P.bytesOf e ≤ B := by
      subst hx
      have := hW ((len + (m - len)) * P.bytesOf e) (by simp [DataW.weights, ht])
      exact Nat.le_trans (Nat.mul_le_mul_right _ (by omega)) this
    have hwi : ∀ i, i < len → Within P B e (D i) := fun i hil k hk => by
      refine hW k ?_
      subst hx
      simp only [DataW.weights, ht, List.mem_cons, List.mem_append]
      exact .inr (.inl (weightsAll_mem (List.mem_map.2 ⟨i, List.mem_range.2 hil, rfl⟩) hk))
    have hQ : ∀ i, i < len → ∃ y : α, ∃ b off cs', some a = some ⟨b, off, none⟩ ∧ b < w.heap.size ∧ cs'.length = size ∧ (∀ j, j < size → w.cell? ⟨b, off + i * size + j, none⟩ = cs'[j]?) ∧ R cs' y := by
      intro i hil
      obtain ⟨cs', hc, htr⟩ := hi i (by omega)
      rw [hsz] at hc
      obtain ⟨_, hlen, hcell⟩ := World.cells?_some hc
      obtain ⟨y, hy⟩ := hR _ _ _ htr (hwi i hil)
      have h0 := hcell 0 hpos
      obtain ⟨v0, hv0⟩ : ∃ v, cs'[0]? = some v := ⟨cs'[0]'(by omega), List.getElem?_eq_getElem (by omega)⟩
      rw [hv0] at h0
      obtain ⟨hlt, _⟩ := cell_lt h0
      obtain ⟨b, off, spot⟩ := a
      have hsp : spot = none := by
        obtain ⟨c0, hc0, htr0⟩ := hi 0 (by omega)
        rw [hsz] at hc0
        obtain ⟨_, hlen0, hcell0⟩ := World.cells?_some hc0
        have h00 := hcell0 0 hpos
        obtain ⟨u0, hu0⟩ : ∃ v, c0[0]? = some v := ⟨c0[0]'(by omega), List.getElem?_eq_getElem (by omega)⟩
        rw [hu0] at h00
        have := (cell_lt h00).2
        simpa [Addr.add] using this
      subst hsp
      refine ⟨y, b, off, cs', rfl, by simpa [add_block] using hlt, hlen, fun j hj => ?_, hy⟩
      rw [← hcell j hj]
      congr 1
      unfold Addr.add
      by_cases c1 : i * size = 0 <;> by_cases c2 : j = 0 <;> simp [c1, c2]
    obtain ⟨l, hll, hq⟩ := list_of_forall len hQ
    exact ⟨some a, len, cap, l, hcs, hll, hl, hm, hbytes, fun i h => hq i h⟩

/-- a field of a struct's cells, with its bound -/
theorem field_rdw {fs : Array Field} {t : TypeId} {fuel B : Nat} {cs : List Value} {x : DataW H × List MemPlace} (ht : P.underlying t = some (.struct fs)) (hW : Within P B t x.1) (h : DataW.trod enc P w base spare held fuel t cs = some x) :
    cs.length = P.cellsOf t ∧ ∀ (i : Nat) (f : Field), fs[i]? = some f → ∃ n y, DataW.trod enc P w base spare held n f.type ((cs.drop f.offset).take (P.cellsOf f.type)) = some y ∧ Within P B f.type y.1 := by
  obtain ⟨xs, n, _, hx, hlen, hxl, hf⟩ := DataW.trod_struct ht h
  refine ⟨hlen, fun i f hi => ?_⟩
  have h1 := hf i f hi
  have hil : i < fs.size := (Array.getElem?_eq_some_iff.1 hi).1
  rw [List.getElem?_eq_getElem (by omega)] at h1
  refine ⟨n, _, h1, fun m hm => hW m ?_⟩
  subst hx
  simp only [DataW.weights, ht]
  refine DataW.weights_mem_each (j := i) (t := f.type) (d := (xs[i]'(by omega)).1) ?_ ?_ m hm
  · have : fs.toList[i]? = some f := by rw [Array.getElem?_toList]; exact hi
    simp [this]
  · simp [List.getElem?_eq_getElem (show i < xs.length by omega)]

/-- texts in memory, each within the form's reach -/
def TextsAt (w : World) (A : Option Addr) (l : List ByteArray) : Prop :=
  ∀ i (h : i < l.length), ∃ b off, A = some ⟨b, off, none⟩ ∧ b < w.heap.size ∧ w.cell? ⟨b, off + i, none⟩ = some (.string l[i]) ∧ l[i].size ≤ 140737488351232
end
end Go.Proofs.YtbakhdgiimjnkaaGreatDoor
