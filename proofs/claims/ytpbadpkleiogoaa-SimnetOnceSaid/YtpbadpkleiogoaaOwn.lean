/-
  Which object owns which block: a colouring of blocks. An owned block's colour is (its object's number, the block's part in it); what has no colour is never written again. No program in sight.
-/
import Derived.Test.YtpbadpkleiogoaaSl
namespace Go.Proofs.Ytpbadpkleiogoaa
open Go.RowKit

abbrev Col := Nat → Option (Nat × Nat)
/-- the colours of what was there are as they were -/
def Ext (w : World) (ρ ρ' : Col) : Prop := ∀ b, b < w.heap.size → ρ' b = ρ b
/-- what is not there has no colour -/
def Fit (ρ : Col) (w : World) : Prop := ∀ b, w.heap.size ≤ b → ρ b = none
def Col.put (ρ : Col) (b : Nat) (c : Nat × Nat) : Col := fun x => if x = b then some c else ρ x
/-- only blocks of object o have turned -/
def OwnMod (ρ : Col) (o : Nat) (w w' : World) : Prop := Mod (fun b => ∃ r, ρ b = some (o, r)) w w'
/-- a slice value's block has this colour -/
def Vc (ρ : Col) (v : Value) (c : Option (Nat × Nat)) : Prop := ∀ b, v.ownBlock = some b → ρ b = c

section
variable {ρ ρ' ρ'' : Col} {w w' w'' : World} {o : Nat} {v v' : Value} {c : Option (Nat × Nat)}
theorem Ext.refl (w : World) (ρ : Col) : Ext w ρ ρ := fun _ _ => rfl
theorem Ext.trans (h : Ext w ρ ρ') (k : Ext w' ρ' ρ'') (hs : w.heap.size ≤ w'.heap.size) : Ext w ρ ρ'' := fun b hb => (k b (Nat.lt_of_lt_of_le hb hs)).trans (h b hb)
theorem Ext.put (h : Ext w ρ ρ') {b : Nat} (hb : w.heap.size ≤ b) (c : Nat × Nat) : Ext w ρ (ρ'.put b c) := fun x hx => by
  unfold Col.put
  rw [if_neg (by omega)]
  exact h x hx
theorem Fit.mono (h : Fit ρ w) (hs : w.heap.size ≤ w'.heap.size) : Fit ρ w' := fun b hb => h b (by omega)
theorem Fit.put (h : Fit ρ w) {b : Nat} (hb : b < w.heap.size) (c : Nat × Nat) : Fit (ρ.put b c) w := fun x hx => by
  unfold Col.put
  rw [if_neg (by omega)]
  exact h x hx
theorem put_same (ρ : Col) (b : Nat) (c : Nat × Nat) : ρ.put b c b = some c := by simp [Col.put]
theorem put_other (ρ : Col) {b x : Nat} (h : x ≠ b) (c : Nat × Nat) : ρ.put b c x = ρ x := by simp [Col.put, h]
theorem OwnMod.refl (ρ : Col) (o : Nat) (w : World) : OwnMod ρ o w w := Mod.refl _ _
theorem OwnMod.trans (h : OwnMod ρ o w w') (k : OwnMod ρ' o w' w'') (e : Ext w ρ ρ') : OwnMod ρ o w w'' := Mod.trans h k (fun b hb ⟨r, hr⟩ => ⟨r, (e b hb).symm.trans hr⟩)
theorem OwnMod.fresh (h : OwnMod ρ o w w') (k : Mod (fun _ => False) w' w'') : OwnMod ρ o w w'' := Mod.trans h k (fun _ _ x => x.elim)
theorem OwnMod.setCell (h : OwnMod ρ o w w') {p : Addr} {r : Nat} (hp : ρ p.block = some (o, r)) (u : Value) : OwnMod ρ o w (w'.setCell p u) := Mod.setCell h (fun _ => ⟨r, hp⟩) u
theorem OwnMod.val (h : OwnMod ρ o w w') {r : Nat} (hv : Vc ρ v (some (o, r))) (k : Mod (fun b => v.ownBlock = some b) w' w'') : OwnMod ρ o w w'' := Mod.trans h k (fun b _ x => ⟨r, hv b x⟩)
theorem Vc.ext {E : TypeId} {size n : Nat} {xs : List Value} (h : Vc ρ v c) (hs : Sl w E size v n xs) (e : Ext w ρ ρ') : Vc ρ' v c := fun b hb => (e b (hs.lt hb)).trans (h b hb)
theorem Vc.lt (h : Vc ρ v c) (hlt : ∀ b, v.ownBlock = some b → b < w.heap.size) (e : Ext w ρ ρ') : Vc ρ' v c := fun b hb => (e b (hlt b hb)).trans (h b hb)
theorem Vc.nil (ρ : Col) (n k : Nat) (c : Option (Nat × Nat)) : Vc ρ (.slice none n k) c := fun b hb => by cases hb
/-- behind an append: the block is the old one, or the new one h, which now has the colour -/
theorem Vc.append {c : Nat × Nat} (h : Vc ρ v (some c)) {k : Nat} (hp : v'.ownBlock = v.ownBlock ∨ v'.ownBlock = some k) : (v'.ownBlock = v.ownBlock ∧ Vc ρ v' (some c)) ∨ (v'.ownBlock = some k ∧ Vc (ρ.put k c) v' (some c)) := by
  rcases hp with hp | hp
  · exact .inl ⟨hp, fun b hb => h b (hp ▸ hb)⟩
  · refine .inr ⟨hp, fun b hb => ?_⟩
    obtain rfl : k = b := by rw [hp] at hb; simpa using hb
    exact put_same _ _ _
end
/-- the cells of a block that was made last, its number as the walk spells it -/
theorem Src.newH {P : Program} (w : World) (cs : List Value) (T tx ex : TypeId) (ht : P.underlying tx = some (.slice ex)) (size m c H : Nat) (hH : w.heap.size = H) (hl : cs.length = m * size) (h1 : ∀ u ∈ cs, u.oneCell' = true) :
    Src P (w.alloc (.cells cs.toArray T)) size tx (.slice (some ⟨H, 0, none⟩) m c) m cs := by
  subst hH
  exact Src.new w cs T tx ex ht size m c hl h1
end Go.Proofs.Ytpbadpkleiogoaa
