/-
  Arguments of wal's laws as they read: records, numbers. No law in sight.
-/
import Derived.Test.YtbakhdgiimjnkaaGreatDoorArA
import Derived.Test.YtbakhdgiimjnkaaGreatDoorWlC
import Derived.Test.YtbakhdgiimjnkaaGreatDoorWalTabs
import Derived.Test.YtbakhdgiimjnkaaGreatDoorAwB
import Derived.Test.YtbakhdgiimjnkaaGreatDoorRows
import Derived.LaidMore
import Derived.Deep.DeepHandedRow
import Derived.Deep.DeepWitnessRowRef
set_option linter.unusedVariables false
set_option linter.unusedSimpArgs false
namespace Go.Proofs.YtbakhdgiimjnkaaGreatDoor.walArgs
set_option maxRecDepth 100000
open Go.ChangeShapes Go.WideShapes Go.ChangeAt Go.RowKit Go.Deep
theorem own : ownKnob Tryz.prog.godebug = none := by kernel_rfl
theorem laidOut : laidOutB Tryz.prog = true := by kernel_rfl
theorem cells_u8 : Tryz.prog.cellsOf 5 = 1 := by kernel_rfl
theorem cells_su8 : Tryz.prog.cellsOf 28 = 1 := by kernel_rfl
/-- one record as it reads -/
structure BX where
  A : Option Addr
  n : Nat
  c : Nat
  l : List UInt8
def BX.cell (x : BX) : List Value := [.slice x.A x.n x.c]
structure BX.Ok (W : World) (x : BX) : Prop where
  len : x.l.length = x.n
  ok : Abs.SliceOk W x.A x.n x.c
  rd : SliceRd W 1 (fun cs (z : UInt8) => cs = [Value.int .u8 ((z.toNat : Nat) : Int)]) x.A x.l
section
variable {H : Type} {enc : TypeId × Value → H} {W : World} {base b0 : Nat} {held : Bool}
theorem bytes_rd {n : Nat} {cs : List Value} {y : DataW H × List MemPlace} (h : DataW.trod enc Tryz.prog W b0 (fun _ => true) held n 28 cs = some y) (hW : Within Tryz.prog reachBytes 28 y.1) : ∃ x : BX, cs = x.cell ∧ x.Ok W := by
  obtain ⟨A, len, cap, l, e0, hl, _, _, _, hrd⟩ := open_slice_rdw (R := fun cs (z : UInt8) => cs = [Value.int .u8 ((z.toNat : Nat) : Int)]) Tryz.underlying28 cells_u8 (by decide) hW (fun n cs y h _ => by
    obtain ⟨z, e, _, hz⟩ := DataW.trod_int Tryz.underlying5 h
    obtain ⟨z1, z2⟩ := bd_u8 hz
    refine ⟨UInt8.ofNat z.toNat, ?_⟩
    rw [e, UInt8.toNat_ofNat', Nat.mod_eq_of_lt (by omega), Int.toNat_of_nonneg z1]) h
  obtain ⟨A', n', c', e0', hok⟩ := Abs.trod_slice_ok Tryz.underlying28 (by rw [cells_u8]; decide) h
  rw [e0] at e0'
  cases e0'
  exact ⟨⟨A, len, cap, l⟩, e0, hl, hok, hrd⟩
/-- RECORDS AS AN ARGUMENT. -/
theorem recs_arg {v : Value} {fuel : Nat} {x : DataW H × List MemPlace} (hok : Value.okWide Tryz.prog W .any base 59 v) (hW : Within Tryz.prog reachBytes 59 x.1) (h : DataW.trod enc Tryz.prog W b0 (fun _ => true) held fuel 59 v.cells.toList = some x) :
    ∃ (A : Option Addr) (n c : Nat) (l : List BX), v = .slice A n c ∧ Abs.SliceOk W A n c ∧ (l.length = n ∧ SliceRd W 1 (fun cs x => cs = x.cell ∧ x.Ok W) A l) := by
  obtain ⟨A, n, c, rfl⟩ := okWide_slice Tryz.underlying59 hok
  obtain ⟨A', len, cap, l, e0, hl, _, _, hbb, hrd⟩ := open_slice_rdw (R := fun cs x => cs = BX.cell x ∧ x.Ok W) Tryz.underlying59 cells_su8 (by decide) hW (fun n cs y h hw => bytes_rd h hw) h
  obtain ⟨A2, n2, c2, e2, hok2⟩ := Abs.trod_slice_ok Tryz.underlying59 (by rw [cells_su8]; decide) h
  cases e0
  cases e2
  exact ⟨A, n, c, l, rfl, hok2, hl, hrd⟩
end
open Abs in
theorem tabs0 : ∃ b ws e, b < 4096 ∧ (stTabs tabs3).heap.get b = some (.const ws e) := by
  have h := List.all_eq_true.1 law7.tabs_in (tabs3.head (by simp [tabs3])) (List.head_mem _)
  obtain ⟨e, he⟩ := Abs.constIs_eq h
  exact ⟨_, _, e, (law7.tabs_ok _ (List.head_mem (by simp [tabs3]))).1, he⟩
theorem bytes_flat : ∀ l : List UInt8, Abs.byteCells l = l.flatMap fun z => [Value.int .u8 ((z.toNat : Nat) : Int)]
  | [] => rfl
  | z :: l => by rw [List.flatMap_cons, ← bytes_flat l]; rfl
open Abs in
theorem put_bytes {W : World} {l : List (List Value × TypeId)} {q : List (Nat × Nat)} (hP : Put W l q) {x : BX} (hx : x.Ok W) :
    ∃ l' q' sv, On l q l' q' ∧ Put W l' q' ∧ VRel (phiArgs q') sv (.slice x.A x.n x.c) ∧ BytesB (stArgs tabs3 l') sv x.l := by
  obtain ⟨l', q', sv, h1, h2, h3, ⟨a, c', rfl⟩, h5⟩ := put_flat (tabs := tabs3) tabs0 hP hx.ok (g := fun z : UInt8 => [Value.int .u8 ((z.toNat : Nat) : Int)]) (by decide) (fun _ => rfl) (fun z v hv => by rw [List.mem_singleton] at hv; subst hv; rfl) hx.len hx.rd 5
  have e := hx.len
  rw [← e] at h5 h3 ⊢
  exact ⟨l', q', _, h1, h2, h3, ⟨_, _, rfl⟩, by rw [bytes_flat]; exact h5⟩
open Abs in
theorem put_inner {W : World} : ∀ (X : List BX), (∀ x ∈ X, x.Ok W) → ∀ {l : List (List Value × TypeId)} {q : List (Nat × Nat)}, Put W l q → ∃ (l' : List (List Value × TypeId)) (q' : List (Nat × Nat)) (svs : List Value), On l q l' q' ∧ Put W l' q' ∧ svs.length = X.length ∧ ∀ (i : Nat) (h : i < X.length) (h' : i < svs.length), VRel (phiArgs q') svs[i] (.slice X[i].A X[i].n X[i].c) ∧ BytesB (stArgs tabs3 l') svs[i] X[i].l
  | [], _, l, q, hP => ⟨l, q, [], .refl _ _, hP, rfl, fun i h => absurd h (Nat.not_lt_zero _)⟩
  | x :: X, hX, l, q, hP => by
    have hx := hX x (List.mem_cons_self ..)
    obtain ⟨l1, q1, sv, o1, P1, V1, F1⟩ := put_bytes hP hx
    obtain ⟨l2, q2, svs, o2, P2, hlen, h2⟩ := put_inner X (fun y hy => hX y (List.mem_cons_of_mem _ hy)) P1
    have htl : ∀ t ∈ tabs3, t.1 < 4096 := fun t ht => (law7.tabs_ok t ht).1
    refine ⟨l2, q2, sv :: svs, o1.trans o2, P2, by simp [hlen], fun i h h' => ?_⟩
    cases i with
    | zero => exact ⟨V1.mono o2.le, F1.mono (o2.old htl)⟩
    | succ i => exact h2 i (by simpa using h) (by simpa using h')
open Abs in
/-- records are put -/
theorem put_recs {W : World} {l : List (List Value × TypeId)} {q : List (Nat × Nat)} (hP : Put W l q) {A : Option Addr} {n c : Nat} (hA : SliceOk W A n c) {X : List BX} (hr : X.length = n ∧ SliceRd W 1 (fun cs x => cs = x.cell ∧ x.Ok W) A X) :
    ∃ l' q' sv, On l q l' q' ∧ Put W l' q' ∧ VRel (phiArgs q') sv (.slice A n c) ∧ Texts (stArgs tabs3 l') sv (X.map (·.l)) := by
  obtain ⟨hn, hr⟩ := hr
  have hall : ∀ x ∈ X, x.Ok W := fun x hx => by
    obtain ⟨i, hi, rfl⟩ := List.getElem_of_mem hx
    obtain ⟨_, _, _, _, _, _, _, _, h⟩ := hr i hi
    exact h
  obtain ⟨l1, q1, svs, o1, P1, hlen, h1⟩ := put_inner X hall hP
  have htl : ∀ t ∈ tabs3, t.1 < 4096 := fun t ht => (law7.tabs_ok t ht).1
  let rows : List (List Value) := svs.map fun v => [v]
  have hrl : rows.length = X.length := by simp [rows, hlen]
  have hrow : ∀ r ∈ rows, r.length = 1 := fun r hr => by
    obtain ⟨i, _, rfl⟩ := List.mem_map.1 hr
    rfl
  have hfl : rows.flatten = svs := by
    have key : ∀ l : List Value, (l.map fun v => [v]).flatten = l := fun l => by
      induction l with
      | nil => rfl
      | cons v l ih => rw [List.map_cons, List.flatten_cons, ih]; rfl
    exact key svs
  obtain ⟨l2, q2, sv, o2, P2, V2, ⟨a, c', rfl⟩, h5⟩ := put_rows (tabs := tabs3) tabs0 P1 hA (sz := 1) (by decide) hn hr (rows := rows) (by rw [hrl, hn]) hrow (fun i h h' cs' hR k v hv => by
    obtain ⟨rfl, _⟩ := hR
    have hs : i < svs.length := by omega
    have hri : rows[i] = [svs[i]] := by simp [rows]
    rw [hri] at hv
    obtain ⟨V, _⟩ := h1 i h hs
    unfold BX.cell
    match k, hv with
    | 0, hv => cases hv; exact ⟨_, rfl, V⟩
    | k + 1, hv => simp at hv) 28
  subst hn
  rw [hfl] at h5
  refine ⟨l2, q2, _, o1.trans o2, P2, V2, svs, by rw [List.length_map]; exact h5, ⟨a, c', by rw [List.length_map]⟩, by rw [List.length_map]; exact hlen, fun i v r e1 e2 => ?_⟩
  rw [List.getElem?_map] at e2
  obtain ⟨x, hx, rfl⟩ := Option.map_eq_some_iff.1 e2
  obtain ⟨hi, rfl⟩ := List.getElem?_eq_some_iff.1 e1
  obtain ⟨hi', rfl⟩ := List.getElem?_eq_some_iff.1 hx
  exact (h1 i hi' hi).2.mono (o2.old htl)
end Go.Proofs.YtbakhdgiimjnkaaGreatDoor.walArgs
