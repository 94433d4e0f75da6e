/-
  Calls of the net's law as an argument: how they read, and how they are put. No law in sight.
-/
import Derived.Test.YtpbadpkleiogoaaSPutNil
import Derived.Test.YtpbadpkleiogoaaSPlays
import Derived.LaidMore
import Derived.Test.YtpbadpkleiogoaaArA
import Derived.KernelRfl
set_option linter.unusedVariables false
set_option linter.unusedSimpArgs false
namespace Go.Proofs.Ytpbadpkleiogoaa.simArgs
set_option maxRecDepth 100000
open Go.ChangeShapes Go.WideShapes Go.ChangeAt Go.RowKit Go.Deep
theorem cells_int : Try.prog.cellsOf 3 = 1 := by kernel_rfl
theorem cells_string : Try.prog.cellsOf 9 = 1 := by kernel_rfl
theorem cells_act : Try.prog.cellsOf 62 = 4 := by kernel_rfl
theorem one {l : List Value} {i : Nat} {v : Value} (h : (l.drop i).take 1 = [v]) : l[i]? = some v := by
  have := congrArg (fun l => l[0]?) h
  simpa using this
theorem four {l : List Value} {a b c d : Value} (hl : l.length = 4) (h0 : l[0]? = some a) (h1 : l[1]? = some b) (h2 : l[2]? = some c) (h3 : l[3]? = some d) : l = [a, b, c, d] := by
  match l, hl with
  | [p, q, r, s], _ => simp at h0 h1 h2 h3; simp [h0, h1, h2, h3]
structure SOk (x : SX) : Prop where
  lo : -9223372036854775808 ≤ x.a
  hi : x.a ≤ 9223372036854775807
  len : x.d.length ≤ 140737488351232
section
variable {H : Type} {enc : TypeId × Value → H} {W : World} {base b0 : Nat} {held : Bool}
theorem act_rd {n : Nat} {cs : List Value} {y : DataW H × List MemPlace} (h : DataW.trod enc Try.prog W b0 (fun _ => true) held n 62 cs = some y) (hW : Within Try.prog reachBytes 62 y.1) : ∃ x : SX, cs = x.cells ∧ SOk x := by
  obtain ⟨hlen, hfld⟩ := field_rdw (B := reachBytes) Try.underlying62 hW h
  rw [cells_act] at hlen
  obtain ⟨n0, y0, g0, _⟩ := hfld 0 _ rfl
  obtain ⟨n1, y1, g1, _⟩ := hfld 1 _ rfl
  obtain ⟨n2, y2, g2, _⟩ := hfld 2 _ rfl
  obtain ⟨n3, y3, g3, w3⟩ := hfld 3 _ rfl
  replace g0 : DataW.trod enc Try.prog W b0 (fun _ => true) held n0 3 ((cs.drop 0).take 1) = some y0 := by rw [← cells_int]; exact g0
  replace g1 : DataW.trod enc Try.prog W b0 (fun _ => true) held n1 3 ((cs.drop 1).take 1) = some y1 := by rw [← cells_int]; exact g1
  replace g2 : DataW.trod enc Try.prog W b0 (fun _ => true) held n2 3 ((cs.drop 2).take 1) = some y2 := by rw [← cells_int]; exact g2
  replace g3 : DataW.trod enc Try.prog W b0 (fun _ => true) held n3 9 ((cs.drop 3).take 1) = some y3 := by rw [← cells_string]; exact g3
  obtain ⟨z0, e0, _⟩ := DataW.trod_int Try.underlying3 g0
  obtain ⟨z1, e1, _, hz1⟩ := DataW.trod_int Try.underlying3 g1
  obtain ⟨z2, e2, _⟩ := DataW.trod_int Try.underlying3 g2
  obtain ⟨s, e3, hy, _⟩ := DataW.trod_string Try.underlying9 g3
  subst hy
  have hs := Within.text w3
  obtain ⟨⟨d⟩⟩ := s
  exact ⟨⟨z0, z1, z2, d⟩, four hlen (one e0) (one e1) (one e2) (one e3), (bd_i64 hz1).1, (bd_i64 hz1).2, hs⟩
/-- CALLS AS AN ARGUMENT. -/
theorem acts_arg {v : Value} {fuel : Nat} {x : DataW H × List MemPlace} (hok : Value.okWide Try.prog W .any base 55 v) (hW : Within Try.prog reachBytes 55 x.1) (h : DataW.trod enc Try.prog W b0 (fun _ => true) held fuel 55 v.cells.toList = some x) :
    ∃ (A : Option Addr) (n c : Nat) (l : List SX), v = .slice A n c ∧ Abs.SliceOk W A n c ∧ (l.length = n ∧ SliceRd W 4 (fun cs x => cs = x.cells ∧ SOk x) A l) := by
  obtain ⟨A, n, c, rfl⟩ := okWide_slice Try.underlying55 hok
  obtain ⟨A', len, cap, l, e0, hl, _, _, hbb, hrd⟩ := open_slice_rdw (R := fun cs x => cs = SX.cells x ∧ SOk x) Try.underlying55 cells_act (by decide) hW (fun n cs y h hw => act_rd h hw) h
  obtain ⟨A2, n2, c2, e2, hok2⟩ := Abs.trod_slice_ok Try.underlying55 (by rw [cells_act]; decide) h
  cases e0
  cases e2
  exact ⟨A, n, c, l, rfl, hok2, hl, hrd⟩
end
open Abs in
/-- calls are put -/
theorem put_acts {W : World} {l : List (List Value × TypeId)} {q : List (Nat × Nat)} (hP : Put W l q) {A : Option Addr} {n c : Nat} (hA : SliceOk W A n c) {xs : List SX} (hr : xs.length = n ∧ SliceRd W 4 (fun cs x => cs = x.cells ∧ SOk x) A xs) :
    ∃ l' q' sv, On l q l' q' ∧ Put W l' q' ∧ VRel (phiArgs q') sv (.slice A n c) ∧ SActs (stArgs [] l') sv xs ∧ ∀ x ∈ xs, SOk x := by
  obtain ⟨hn, hr⟩ := hr
  have hall : ∀ x ∈ xs, SOk x := fun x hx => by
    obtain ⟨i, hi, rfl⟩ := List.getElem_of_mem hx
    obtain ⟨_, _, _, _, _, _, _, _, h⟩ := hr i hi
    exact h
  let rows : List (List Value) := xs.map SX.cells
  have hrl : rows.length = xs.length := by simp [rows]
  have hrow : ∀ r ∈ rows, r.length = 4 := fun r hr => by
    obtain ⟨i, _, rfl⟩ := List.mem_map.1 hr
    rfl
  have hri : ∀ (i : Nat) (h : i < rows.length) (hx : i < xs.length), rows[i] = xs[i].cells := fun i h hx => by simp [rows]
  obtain ⟨l2, q2, sv, o2, P2, V2, ⟨a, c', rfl⟩, h5⟩ := put_rows0 (tabs := []) hP hA (sz := 4) (by decide) hn hr (rows := rows) (by rw [hrl, hn]) hrow (fun i h h' cs' hR k v hv => by
    obtain ⟨rfl, _⟩ := hR
    rw [hri i h' h] at hv
    unfold SX.cells at hv ⊢
    match k, hv with
    | 0, hv => cases hv; exact ⟨_, rfl, .int _ _⟩
    | 1, hv => cases hv; exact ⟨_, rfl, .int _ _⟩
    | 2, hv => cases hv; exact ⟨_, rfl, .int _ _⟩
    | 3, hv => cases hv; exact ⟨_, rfl, .string _⟩
    | k + 4, hv => simp at hv) 62
  subst hn
  refine ⟨l2, q2, _, o2, P2, V2, ⟨⟨a, c', rfl⟩, fun hp => ⟨rows.flatten, h5 hp, fun i h => ?_⟩⟩, hall⟩
  rw [flat_at rows hrow i (by omega), hri i (by omega) h]
end Go.Proofs.Ytpbadpkleiogoaa.simArgs
