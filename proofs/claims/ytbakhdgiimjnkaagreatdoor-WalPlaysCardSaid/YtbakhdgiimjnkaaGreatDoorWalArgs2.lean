/-
  Arguments of wal's laws as they read: calls of the first law. No law in sight.
-/
import Derived.Test.YtbakhdgiimjnkaaGreatDoorWalArgs
import Derived.Test.YtbakhdgiimjnkaaGreatDoorWPlays
set_option linter.unusedVariables false
set_option linter.unusedSimpArgs false
namespace Go.Proofs.YtbakhdgiimjnkaaGreatDoor.walArgs
set_option maxRecDepth 100000
open Go.ChangeShapes Go.WideShapes Go.ChangeAt Go.RowKit Go.Deep
theorem cells_sint : Tryz.prog.cellsOf 45 = 1 := by kernel_rfl
theorem cells_string : Tryz.prog.cellsOf 9 = 1 := by kernel_rfl
theorem cells_act : Tryz.prog.cellsOf 78 = 4 := by kernel_rfl
theorem one {l : List Value} {i : Nat} {v : Value} (h : (l.drop i).take 1 = [v]) : l[i]? = some v := by
  have := congrArg (fun l => l[0]?) h
  simpa using this
theorem four {l : List Value} {a b c d : Value} (hl : l.length = 4) (h0 : l[0]? = some a) (h1 : l[1]? = some b) (h2 : l[2]? = some c) (h3 : l[3]? = some d) : l = [a, b, c, d] := by
  match l, hl with
  | [p, q, r, s], _ => simp at h0 h1 h2 h3; simp [h0, h1, h2, h3]
/-- a call as it lies in the world -/
structure QX where
  op : Int
  nn : Int
  d : List UInt8
  A : Option Addr
  n : Nat
  c : Nat
  zs : List Int
def QX.cells (x : QX) : List Value := [.int .i64 x.op, .int .i64 x.nn, .string ⟨⟨x.d⟩⟩, .slice x.A x.n x.c]
structure QX.Ok (W : World) (x : QX) : Prop where
  nle : x.nn ≤ 9223372036854775807
  len : x.zs.length = x.n
  ok : Abs.SliceOk W x.A x.n x.c
  rd : SliceRd W 1 (fun cs z => cs = [Value.int .i64 z]) x.A x.zs
section
variable {H : Type} {enc : TypeId × Value → H} {W : World} {base b0 : Nat} {held : Bool}
theorem act_rd {n : Nat} {cs : List Value} {y : DataW H × List MemPlace} (h : DataW.trod enc Tryz.prog W b0 (fun _ => true) held n 78 cs = some y) (hW : Within Tryz.prog reachBytes 78 y.1) : ∃ x : QX, cs = x.cells ∧ x.Ok W := by
  obtain ⟨hlen, hfld⟩ := field_rdw (B := reachBytes) Tryz.underlying78 hW h
  rw [cells_act] at hlen
  obtain ⟨n0, y0, g0, _⟩ := hfld 0 _ rfl
  obtain ⟨n1, y1, g1, _⟩ := hfld 1 _ rfl
  obtain ⟨n2, y2, g2, _⟩ := hfld 2 _ rfl
  obtain ⟨n3, y3, g3, w3⟩ := hfld 3 _ rfl
  replace g0 : DataW.trod enc Tryz.prog W b0 (fun _ => true) held n0 3 ((cs.drop 0).take 1) = some y0 := by rw [← cells_int]; exact g0
  replace g1 : DataW.trod enc Tryz.prog W b0 (fun _ => true) held n1 3 ((cs.drop 1).take 1) = some y1 := by rw [← cells_int]; exact g1
  replace g2 : DataW.trod enc Tryz.prog W b0 (fun _ => true) held n2 9 ((cs.drop 2).take 1) = some y2 := by rw [← cells_string]; exact g2
  replace g3 : DataW.trod enc Tryz.prog W b0 (fun _ => true) held n3 45 ((cs.drop 3).take 1) = some y3 := by rw [← cells_sint]; exact g3
  obtain ⟨z0, e0, _⟩ := DataW.trod_int Tryz.underlying3 g0
  obtain ⟨z1, e1, _, hz1⟩ := DataW.trod_int Tryz.underlying3 g1
  obtain ⟨⟨⟨d⟩⟩, e2, _⟩ := DataW.trod_string Tryz.underlying9 g2
  obtain ⟨A, len, cap, zs, e3, hl, _, _, _, hrd⟩ := open_slice_rdw (R := fun cs z => cs = [Value.int .i64 z]) Tryz.underlying45 cells_int (by decide) w3 (fun n cs y h _ => by
    obtain ⟨z, e, _⟩ := DataW.trod_int Tryz.underlying3 h
    exact ⟨z, e⟩) g3
  obtain ⟨A', n', c', e3', hok⟩ := Abs.trod_slice_ok Tryz.underlying45 (by rw [cells_int]; decide) g3
  rw [e3] at e3'
  cases e3'
  exact ⟨⟨z0, z1, d, A, len, cap, zs⟩, four hlen (one e0) (one e1) (one e2) (one e3), (bd_i64 hz1).2, hl, hok, hrd⟩
/-- CALLS AS AN ARGUMENT. -/
theorem acts_arg {v : Value} {fuel : Nat} {x : DataW H × List MemPlace} (hok : Value.okWide Tryz.prog W .any base 76 v) (hW : Within Tryz.prog reachBytes 76 x.1) (h : DataW.trod enc Tryz.prog W b0 (fun _ => true) held fuel 76 v.cells.toList = some x) :
    ∃ (A : Option Addr) (n c : Nat) (l : List QX), v = .slice A n c ∧ Abs.SliceOk W A n c ∧ (l.length = n ∧ SliceRd W 4 (fun cs x => cs = x.cells ∧ x.Ok W) A l) := by
  obtain ⟨A, n, c, rfl⟩ := okWide_slice Tryz.underlying76 hok
  obtain ⟨A', len, cap, l, e0, hl, _, _, hbb, hrd⟩ := open_slice_rdw (R := fun cs x => cs = QX.cells x ∧ x.Ok W) Tryz.underlying76 cells_act (by decide) hW (fun n cs y h hw => act_rd h hw) h
  obtain ⟨A2, n2, c2, e2, hok2⟩ := Abs.trod_slice_ok Tryz.underlying76 (by rw [cells_act]; decide) h
  cases e0
  cases e2
  exact ⟨A, n, c, l, rfl, hok2, hl, hrd⟩
end
open Abs in
theorem put_innerQ {W : World} : ∀ (X : List QX), (∀ x ∈ X, x.Ok W) → ∀ {l : List (List Value × TypeId)} {q : List (Nat × Nat)}, Put W l q → ∃ (l' : List (List Value × TypeId)) (q' : List (Nat × Nat)) (svs : List Value), On l q l' q' ∧ Put W l' q' ∧ svs.length = X.length ∧ ∀ (i : Nat) (h : i < X.length) (h' : i < svs.length), VRel (phiArgs q') svs[i] (.slice X[i].A X[i].n X[i].c) ∧ IntsB (stArgs tabs3 l') svs[i] X[i].zs
  | [], _, l, q, hP => ⟨l, q, [], .refl _ _, hP, rfl, fun i h => absurd h (Nat.not_lt_zero _)⟩
  | x :: X, hX, l, q, hP => by
    have hx := hX x (List.mem_cons_self ..)
    obtain ⟨l1, q1, sv, o1, P1, V1, F1⟩ := put_ints hP hx.ok hx.len hx.rd
    obtain ⟨l2, q2, svs, o2, P2, hlen, h2⟩ := put_innerQ X (fun y hy => hX y (List.mem_cons_of_mem _ hy)) P1
    have htl : ∀ t ∈ tabs3, t.1 < 4096 := fun t ht => (law7.tabs_ok t ht).1
    refine ⟨l2, q2, sv :: svs, o1.trans o2, P2, by simp [hlen], fun i h h' => ?_⟩
    cases i with
    | zero => exact ⟨V1.mono o2.le, F1.mono fun b x _ hx => o2.old htl b x hx⟩
    | succ i => exact h2 i (by simpa using h) (by simpa using h')
def QX.ax (x : QX) (sv : Value) : AX := ⟨x.op, x.nn, x.d, sv, x.zs⟩
open Abs in
/-- calls are put -/
theorem put_acts {W : World} {l : List (List Value × TypeId)} {q : List (Nat × Nat)} (hP : Put W l q) {A : Option Addr} {n c : Nat} (hA : SliceOk W A n c) {X : List QX} (hr : X.length = n ∧ SliceRd W 4 (fun cs x => cs = x.cells ∧ x.Ok W) A X) :
    ∃ l' q' sv xs, On l q l' q' ∧ Put W l' q' ∧ VRel (phiArgs q') sv (.slice A n c) ∧ ActsAt (stArgs tabs3 l') sv xs ∧ ∀ x ∈ xs, x.nn ≤ 9223372036854775807 := by
  obtain ⟨hn, hr⟩ := hr
  have hall : ∀ x ∈ X, x.Ok W := fun x hx => by
    obtain ⟨i, hi, rfl⟩ := List.getElem_of_mem hx
    obtain ⟨_, _, _, _, _, _, _, _, h⟩ := hr i hi
    exact h
  obtain ⟨l1, q1, svs, o1, P1, hlen, h1⟩ := put_innerQ X hall hP
  have htl : ∀ t ∈ tabs3, t.1 < 4096 := fun t ht => (law7.tabs_ok t ht).1
  let xs : List AX := List.zipWith QX.ax X svs
  have hxl : xs.length = X.length := by simp [xs, hlen]
  have hxi : ∀ (i : Nat) (h : i < xs.length) (hx : i < X.length) (hs : i < svs.length), xs[i] = X[i].ax svs[i] := fun i h hx hs => by simp [xs]
  let rows : List (List Value) := xs.map AX.cells
  have hrl : rows.length = X.length := by simp [rows, hxl]
  have hrow : ∀ r ∈ rows, r.length = 4 := fun r hr => by
    obtain ⟨i, _, rfl⟩ := List.mem_map.1 hr
    rfl
  have hri : ∀ (i : Nat) (h : i < rows.length) (hx : i < xs.length), rows[i] = xs[i].cells := fun i h hx => by simp [rows]
  obtain ⟨l2, q2, sv, o2, P2, V2, ⟨a, c', rfl⟩, h5⟩ := put_rows (tabs := tabs3) tabs0 P1 hA (sz := 4) (by decide) hn hr (rows := rows) (by rw [hrl, hn]) hrow (fun i h h' cs' hR k v hv => by
    obtain ⟨rfl, _⟩ := hR
    rw [hri i h' (by omega), hxi i (by omega) h (by omega)] at hv
    obtain ⟨V, _⟩ := h1 i h (by omega)
    unfold AX.cells QX.ax at hv
    unfold QX.cells
    match k, hv with
    | 0, hv => cases hv; exact ⟨_, rfl, .int _ _⟩
    | 1, hv => cases hv; exact ⟨_, rfl, .int _ _⟩
    | 2, hv => cases hv; exact ⟨_, rfl, .string _⟩
    | 3, hv => cases hv; exact ⟨_, rfl, V⟩
    | k + 4, hv => simp at hv) 78
  subst hn
  refine ⟨l2, q2, _, xs, o1.trans o2, P2, V2, ⟨⟨a, c', by rw [hxl]⟩, rows.flatten, by rw [hxl]; exact h5, fun i h => ?_⟩, fun x hx => ?_⟩
  · obtain ⟨_, hF⟩ := h1 i (by omega) (by omega)
    refine ⟨?_, ?_⟩
    · rw [flat_at rows hrow i (by omega), hri i (by omega) h]
    · rw [hxi i h (by omega) (by omega)]
      exact hF.mono fun b x _ hx => o2.old htl b x hx
  · obtain ⟨i, hi, rfl⟩ := List.getElem_of_mem hx
    rw [hxi i hi (by omega) (by omega)]
    exact (hall _ (List.getElem_mem _)).nle
theorem acts_mono {s s' : Abs.St} (hk : ∀ b x, s.heap.get b = some x → s'.heap.get b = some x) {v : Value} {l : List AX} (h : ActsAt s v l) : ActsAt s' v l := by
  obtain ⟨h1, cs, h2, h3⟩ := h
  exact ⟨h1, cs, Abs.srcCells_mono hk h2, fun i hi => ⟨(h3 i hi).1, (h3 i hi).2.mono fun b x _ hx => hk b x hx⟩⟩
end Go.Proofs.YtbakhdgiimjnkaaGreatDoor.walArgs
