/-
  manifest's laws: a list of versions as an argument. No law in sight.
-/
import Derived.Test.YtbakhdgiimjnkaaGreatDoorManArgs
import Derived.Test.YtbakhdgiimjnkaaGreatDoorManLastEv
namespace Go.Proofs.YtbakhdgiimjnkaaGreatDoor.manArgs
set_option maxRecDepth 100000
open Go.ChangeShapes Go.WideShapes Go.ChangeAt Go.RowKit Go.Deep
/-- a version as it lies in the world -/
structure VX where
  A : Option Addr
  n : Nat
  c : Nat
  u : MV
def VX.cells (x : VX) : List Value := [.slice x.A x.n x.c, .int .i64 x.u.next, .int .u64 (x.u.seq : Int), .int .i64 x.u.log]
structure VX.Ok (W : World) (x : VX) : Prop where
  len : x.u.files.length = x.n
  ok : Abs.SliceOk W x.A x.n x.c
  rd : SliceRd W 4 (fun cs f => cs = fileC f) x.A x.u.files
  flen : x.u.files.length < 140737488355328
  seq : x.u.seq < 18446744073709551616
theorem bytes_ver : Tryz.prog.bytesOf 26 = 48 := by kernel_rfl
section
variable {H : Type} {enc : TypeId × Value → H} {W : World} {base b0 : Nat} {held : Bool}
theorem ver_rd {n : Nat} {cs : List Value} {y : DataW H × List MemPlace} (h : DataW.trod enc Tryz.prog W b0 (fun _ => true) held n 26 cs = some y) (hW : Within Tryz.prog reachBytes 26 y.1) : ∃ x : VX, cs = x.cells ∧ x.Ok W := by
  obtain ⟨hlen, hfld⟩ := field_rdw (B := reachBytes) Tryz.underlying26 hW h
  rw [cells_ver] at hlen
  obtain ⟨n0, y0, g0, w0⟩ := hfld 0 _ rfl
  obtain ⟨n1, y1, g1, _⟩ := hfld 1 _ rfl
  obtain ⟨n2, y2, g2, _⟩ := hfld 2 _ rfl
  obtain ⟨n3, y3, g3, _⟩ := hfld 3 _ rfl
  replace g0 : DataW.trod enc Tryz.prog W b0 (fun _ => true) held n0 23 ((cs.drop 0).take 1) = some y0 := by rw [← cells_sfile]; exact g0
  replace g1 : DataW.trod enc Tryz.prog W b0 (fun _ => true) held n1 3 ((cs.drop 1).take 1) = some y1 := by rw [← cells_int]; exact g1
  replace g2 : DataW.trod enc Tryz.prog W b0 (fun _ => true) held n2 24 ((cs.drop 2).take 1) = some y2 := by rw [← cells_u64]; exact g2
  replace g3 : DataW.trod enc Tryz.prog W b0 (fun _ => true) held n3 3 ((cs.drop 3).take 1) = some y3 := by rw [← cells_int]; exact g3
  obtain ⟨A, len, cap, fs, e0, hl, hlc, hcm, hbb, hrd⟩ := open_slice_rdw (R := fun cs f => cs = fileC f) Tryz.underlying23 cells_file (by decide) w0 (fun n cs y h _ => file_rd h) g0
  obtain ⟨A', n', c', e0', hok⟩ := Abs.trod_slice_ok Tryz.underlying23 (by rw [cells_file]; decide) g0
  rw [e0] at e0'
  cases e0'
  obtain ⟨nx, e1, _⟩ := DataW.trod_int Tryz.underlying3 g1
  obtain ⟨sq, e2, _, hsq⟩ := DataW.trod_int Tryz.underlying24 g2
  obtain ⟨lg, e3, _⟩ := DataW.trod_int Tryz.underlying3 g3
  obtain ⟨sq1, sq2⟩ := bd_u64 hsq
  obtain ⟨sqn, rfl⟩ : ∃ m : Nat, sq = (m : Int) := ⟨sq.toNat, by omega⟩
  rw [bytes_file] at hbb
  exact ⟨⟨A, len, cap, ⟨fs, nx, sqn, lg⟩⟩, four hlen (one e0) (one e1) (one e2) (one e3), hl, hok, hrd, by show fs.length < _; unfold reachBytes at hbb; omega, by show sqn < _; omega⟩
/-- VERSIONS AS AN ARGUMENT. -/
theorem vers_arg {v : Value} {fuel : Nat} {x : DataW H × List MemPlace} (hok : Value.okWide Tryz.prog W .any base 51 v) (hW : Within Tryz.prog reachBytes 51 x.1) (h : DataW.trod enc Tryz.prog W b0 (fun _ => true) held fuel 51 v.cells.toList = some x) :
    ∃ (A : Option Addr) (n c : Nat) (l : List VX), v = .slice A n c ∧ Abs.SliceOk W A n c ∧ (l.length = n ∧ SliceRd W 4 (fun cs x => cs = x.cells ∧ x.Ok W) A l) ∧ (l.map (·.u)).length < 140737488355328 ∧ (∀ u ∈ l.map (·.u), u.seq < 18446744073709551616) ∧ ∀ u ∈ l.map (·.u), u.files.length < 140737488355328 := by
  obtain ⟨A, n, c, rfl⟩ := okWide_slice Tryz.underlying51 hok
  obtain ⟨A', len, cap, l, e0, hl, _, _, hbb, hrd⟩ := open_slice_rdw (R := fun cs x => cs = VX.cells x ∧ x.Ok W) Tryz.underlying51 cells_ver (by decide) hW (fun n cs y h hw => ver_rd h hw) h
  obtain ⟨A2, n2, c2, e2, hok2⟩ := Abs.trod_slice_ok Tryz.underlying51 (by rw [cells_ver]; decide) h
  rw [bytes_ver] at hbb
  cases e0
  cases e2
  have hall : ∀ x ∈ l, x.Ok W := fun x hx => by
    obtain ⟨i, hi, rfl⟩ := List.getElem_of_mem hx
    obtain ⟨_, _, _, _, _, _, _, _, h⟩ := hrd i hi
    exact h
  refine ⟨A, n, c, l, rfl, hok2, ⟨hl, hrd⟩, by rw [List.length_map]; unfold reachBytes at hbb; omega, fun u hu => ?_, fun u hu => ?_⟩
  · obtain ⟨x, hx, rfl⟩ := List.mem_map.1 hu
    exact (hall x hx).seq
  · obtain ⟨x, hx, rfl⟩ := List.mem_map.1 hu
    exact (hall x hx).flen
end
open Abs in
theorem put_inner {W : World} : ∀ (X : List VX), (∀ x ∈ X, x.Ok W) → ∀ {l : List (List Value × TypeId)} {q : List (Nat × Nat)}, Put W l q → ∃ (l' : List (List Value × TypeId)) (q' : List (Nat × Nat)) (svs : List Value), On l q l' q' ∧ Put W l' q' ∧ svs.length = X.length ∧ ∀ (i : Nat) (h : i < X.length) (h' : i < svs.length), VRel (phiArgs q') svs[i] (.slice X[i].A X[i].n X[i].c) ∧ FilesAt (stArgs tabs3 l') svs[i] X[i].u.files
  | [], _, l, q, hP => ⟨l, q, [], .refl _ _, hP, rfl, fun i h => absurd h (Nat.not_lt_zero _)⟩
  | x :: X, hX, l, q, hP => by
    have hx := hX x (List.mem_cons_self ..)
    obtain ⟨l1, q1, sv, o1, P1, V1, F1⟩ := put_ver hP hx.ok hx.len hx.rd
    obtain ⟨l2, q2, svs, o2, P2, hlen, h2⟩ := put_inner X (fun y hy => hX y (List.mem_cons_of_mem _ hy)) P1
    have htl : ∀ t ∈ tabs3, t.1 < 4096 := fun t ht => (law11.tabs_ok t ht).1
    refine ⟨l2, q2, sv :: svs, o1.trans o2, P2, by simp [hlen], fun i h h' => ?_⟩
    cases i with
    | zero => exact ⟨V1.mono o2.le, F1.mono (o2.old htl)⟩
    | succ i => exact h2 i (by simpa using h) (by simpa using h')
open Abs in
/-- versions are put -/
theorem put_vers {W : World} {l : List (List Value × TypeId)} {q : List (Nat × Nat)} (hP : Put W l q) {A : Option Addr} {n c : Nat} (hA : SliceOk W A n c) {X : List VX} (hr : X.length = n ∧ SliceRd W 4 (fun cs x => cs = x.cells ∧ x.Ok W) A X) :
    ∃ l' q' sv, On l q l' q' ∧ Put W l' q' ∧ VRel (phiArgs q') sv (.slice A n c) ∧ VersAt (stArgs tabs3 l') sv (X.map (·.u)) := by
  obtain ⟨hn, hr⟩ := hr
  have hall : ∀ x ∈ X, x.Ok W := fun x hx => by
    obtain ⟨i, hi, rfl⟩ := List.getElem_of_mem hx
    obtain ⟨_, _, _, _, _, _, _, _, h⟩ := hr i hi
    exact h
  obtain ⟨l1, q1, svs, o1, P1, hlen, h1⟩ := put_inner X hall hP
  have htl : ∀ t ∈ tabs3, t.1 < 4096 := fun t ht => (law11.tabs_ok t ht).1
  let rows : List (List Value) := (List.range X.length).map fun i => verC (svs.getD i undefV) ((X.map (·.u)).getD i noMV)
  have hrl : rows.length = X.length := by simp [rows]
  have hrow : ∀ r ∈ rows, r.length = 4 := fun r hr => by
    obtain ⟨i, _, rfl⟩ := List.mem_map.1 hr
    rfl
  have hri : ∀ (i : Nat) (h : i < rows.length) (hx : i < X.length) (hs : i < svs.length), rows[i] = verC svs[i] X[i].u := fun i h hx hs => by
    simp [rows, List.getD_eq_getElem?_getD, List.getElem?_eq_getElem hx, List.getElem?_eq_getElem hs]
  obtain ⟨l2, q2, sv, o2, P2, V2, ⟨a, c', rfl⟩, h5⟩ := put_rows (tabs := tabs3) tabs0 P1 hA (sz := 4) (by decide) hn hr (rows := rows) (by rw [hrl, hn]) hrow (fun i h h' cs' hR k v hv => by
    obtain ⟨rfl, _⟩ := hR
    rw [hri i h' h (by omega)] at hv
    obtain ⟨V, _⟩ := h1 i h (by omega)
    unfold verC at hv
    unfold VX.cells
    match k, hv with
    | 0, hv => cases hv; exact ⟨_, rfl, V⟩
    | 1, hv => cases hv; exact ⟨_, rfl, .int _ _⟩
    | 2, hv => cases hv; exact ⟨_, rfl, .int _ _⟩
    | 3, hv => cases hv; exact ⟨_, rfl, .int _ _⟩
    | k + 4, hv => simp at hv) 26
  subst hn
  refine ⟨l2, q2, _, o1.trans o2, P2, V2, ⟨⟨a, c', by rw [List.length_map]⟩, fun i => svs.getD i undefV, rows.flatten, by rw [List.length_map]; exact h5, fun i h => ?_⟩⟩
  rw [List.length_map] at h
  obtain ⟨_, hF⟩ := h1 i h (by omega)
  refine ⟨?_, ?_⟩
  · rw [flat_at rows hrow i (by omega), hri i (by omega) h (by omega)]
    simp [List.getD_eq_getElem?_getD, List.getElem?_eq_getElem (show i < svs.length by omega)]
  · rw [List.getElem_map]
    have e : svs.getD i undefV = svs[i]'(by omega) := by simp [List.getD_eq_getElem?_getD, List.getElem?_eq_getElem (show i < svs.length by omega)]
    show FilesAt _ (svs.getD i undefV) _
    rw [e]
    exact hF.mono (o2.old htl)
theorem vers_mono {s s' : Abs.St} (hk : ∀ b x, s.heap.get b = some x → s'.heap.get b = some x) {v : Value} {l : List MV} (h : VersAt s v l) : VersAt s' v l := by
  obtain ⟨h1, sv, cs, h2, h3⟩ := h
  exact ⟨h1, sv, cs, Abs.srcCells_mono hk h2, fun i hi => ⟨(h3 i hi).1, (h3 i hi).2.mono hk⟩⟩
end Go.Proofs.YtbakhdgiimjnkaaGreatDoor.manArgs
