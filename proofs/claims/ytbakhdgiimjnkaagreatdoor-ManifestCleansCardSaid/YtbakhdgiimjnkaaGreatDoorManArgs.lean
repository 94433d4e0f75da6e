/-
  Arguments of manifest's laws as they read: a version, numbers. No law in sight.
-/
import Derived.Test.YtbakhdgiimjnkaaGreatDoorArA
import Derived.Test.YtbakhdgiimjnkaaGreatDoorMnS
import Derived.Test.YtbakhdgiimjnkaaGreatDoorManifestKnownTabs
import Derived.Test.YtbakhdgiimjnkaaGreatDoorAwake11
import Derived.Test.YtbakhdgiimjnkaaGreatDoorRows
import Derived.LaidMore
import Derived.Deep.DeepHandedRow
import Derived.Deep.DeepWitnessRowRef
namespace Go.Proofs.YtbakhdgiimjnkaaGreatDoor.manArgs
set_option maxRecDepth 100000
open Go.ChangeShapes Go.WideShapes Go.ChangeAt Go.RowKit Go.Deep
theorem own : ownKnob Tryz.prog.godebug = none := by kernel_rfl
theorem laidOut : laidOutB Tryz.prog = true := by kernel_rfl
theorem cells_file : Tryz.prog.cellsOf 41 = 4 := by kernel_rfl
theorem cells_ver : Tryz.prog.cellsOf 26 = 4 := by kernel_rfl
theorem cells_sfile : Tryz.prog.cellsOf 23 = 1 := by kernel_rfl
theorem cells_int : Tryz.prog.cellsOf 3 = 1 := by kernel_rfl
theorem cells_u64 : Tryz.prog.cellsOf 24 = 1 := by kernel_rfl
theorem cells_string : Tryz.prog.cellsOf 9 = 1 := by kernel_rfl
theorem bytes_file : Tryz.prog.bytesOf 41 = 48 := by kernel_rfl
theorem bytes_int : Tryz.prog.bytesOf 3 = 8 := by kernel_rfl
theorem types_ver : Tryz.prog.cellTypes Tryz.prog.depth 26 = some [23, 3, 24, 3] := by kernel_rfl
theorem one {l : List Value} {i : Nat} {v : Value} (h : (l.drop i).take 1 = [v]) : l[i]? = some v := by
  have := congrArg (fun l => l[0]?) h
  simpa using this
theorem four {l : List Value} {a b c d : Value} (hl : l.length = 4) (h0 : l[0]? = some a) (h1 : l[1]? = some b) (h2 : l[2]? = some c) (h3 : l[3]? = some d) : l = [a, b, c, d] := by
  match l, hl with
  | [p, q, r, s], _ => simp at h0 h1 h2 h3; simp [h0, h1, h2, h3]
section
variable {H : Type} {enc : TypeId × Value → H} {W : World} {base b0 : Nat} {spare : Nat → Bool} {held : Bool}
theorem file_rd {n : Nat} {cs : List Value} {y : DataW H × List MemPlace} (h : DataW.trod enc Tryz.prog W b0 spare held n 41 cs = some y) : ∃ f, cs = fileC f := by
  obtain ⟨hl, hf⟩ := field_rd Tryz.underlying41 h
  rw [cells_file] at hl
  obtain ⟨n0, y0, h0⟩ := hf 0 _ rfl
  obtain ⟨n1, y1, h1⟩ := hf 1 _ rfl
  obtain ⟨n2, y2, h2⟩ := hf 2 _ rfl
  obtain ⟨n3, y3, h3⟩ := hf 3 _ rfl
  change DataW.trod enc Tryz.prog W b0 spare held n0 3 ((cs.drop 0).take (Tryz.prog.cellsOf 3)) = some y0 at h0
  rw [cells_int] at h0
  change DataW.trod enc Tryz.prog W b0 spare held n1 3 ((cs.drop 1).take (Tryz.prog.cellsOf 3)) = some y1 at h1
  rw [cells_int] at h1
  change DataW.trod enc Tryz.prog W b0 spare held n2 9 ((cs.drop 2).take (Tryz.prog.cellsOf 9)) = some y2 at h2
  rw [cells_string] at h2
  change DataW.trod enc Tryz.prog W b0 spare held n3 9 ((cs.drop 3).take (Tryz.prog.cellsOf 9)) = some y3 at h3
  rw [cells_string] at h3
  obtain ⟨a, e0, _⟩ := DataW.trod_int Tryz.underlying3 h0
  obtain ⟨b, e1, _⟩ := DataW.trod_int Tryz.underlying3 h1
  obtain ⟨c, e2, _⟩ := DataW.trod_string Tryz.underlying9 h2
  obtain ⟨d, e3, _⟩ := DataW.trod_string Tryz.underlying9 h3
  exact ⟨⟨a, b, c.data.toList, d.data.toList⟩, four hl (one e0) (one e1) (one e2) (one e3)⟩
theorem fileC_flat (f : MF) : ∀ v ∈ fileC f, Abs.constOk v = true := by
  intro v hv
  simp only [fileC, List.mem_cons, List.mem_nil_iff, or_false] at hv
  rcases hv with rfl | rfl | rfl | rfl <;> rfl
theorem filesC_flat : ∀ l : List MF, filesC l = l.flatMap fileC
  | [] => rfl
  | f :: l => by rw [List.flatMap_cons, ← filesC_flat l]; rfl
theorem intsC_flat : ∀ l : List Int, intsC l = l.flatMap fun n => [Value.int .i64 n]
  | [] => rfl
  | f :: l => by rw [List.flatMap_cons, ← intsC_flat l]; rfl
theorem slice_ok {t e : TypeId} {A : Option Addr} {n c : Nat} (ht : Tryz.prog.underlying t = some (.slice e)) (h : Cell.okWide Tryz.prog W .any base t (.slice A n c)) : Abs.SliceOk W A n c := by
  refine ⟨fun e => ?_, fun a e => ?_⟩
  · subst e
    unfold Cell.okWide at h
    rw [ht] at h
    have hc : Cell.ok Tryz.prog W .any base t (.slice none n c) := h
    unfold Cell.ok at hc
    rw [ht] at hc
    split at hc <;> first | (rename_i h1 h2; cases h2; exact ⟨rfl, rfl⟩) | (rename_i h1 h2; cases h2; done) | cases hc
  · subst e
    exact .inr (slice_block ht h)
/-- A VERSION AS AN ARGUMENT. -/
theorem ver_arg {v : Value} {fuel : Nat} {x : DataW H × List MemPlace} (hok : Value.okWide Tryz.prog W .any base 26 v) (hW : Within Tryz.prog reachBytes 26 x.1) (h : DataW.trod enc Tryz.prog W b0 spare held fuel 26 v.cells.toList = some x) :
    ∃ (A : Option Addr) (n c : Nat) (u : MV), v = .agg #[.slice A n c, .int .i64 u.next, .int .u64 (u.seq : Int), .int .i64 u.log] ∧ u.files.length = n ∧ Abs.SliceOk W A n c ∧ SliceRd W 4 (fun cs f => cs = fileC f) A u.files ∧ u.files.length < 140737488355328 ∧ u.seq < 18446744073709551616 := by
  unfold Value.okWide at hok
  rw [Tryz.underlying26] at hok
  obtain ⟨cs, rfl, _, ts, hts, _, hcell⟩ := hok
  obtain rfl : ts = [23, 3, 24, 3] := Option.some.inj (hts.symm.trans types_ver)
  obtain ⟨hlen, hfld⟩ := field_rdw (B := reachBytes) Tryz.underlying26 hW h
  change cs.toList.length = _ at hlen
  rw [cells_ver] at hlen
  obtain ⟨n0, y0, g0, w0⟩ := hfld 0 _ rfl
  obtain ⟨n1, y1, g1, _⟩ := hfld 1 _ rfl
  obtain ⟨n2, y2, g2, _⟩ := hfld 2 _ rfl
  obtain ⟨n3, y3, g3, _⟩ := hfld 3 _ rfl
  replace g0 : DataW.trod enc Tryz.prog W b0 spare held n0 23 ((cs.toList.drop 0).take 1) = some y0 := by rw [← cells_sfile]; exact g0
  replace g1 : DataW.trod enc Tryz.prog W b0 spare held n1 3 ((cs.toList.drop 1).take 1) = some y1 := by rw [← cells_int]; exact g1
  replace g2 : DataW.trod enc Tryz.prog W b0 spare held n2 24 ((cs.toList.drop 2).take 1) = some y2 := by rw [← cells_u64]; exact g2
  replace g3 : DataW.trod enc Tryz.prog W b0 spare held n3 3 ((cs.toList.drop 3).take 1) = some y3 := by rw [← cells_int]; exact g3
  obtain ⟨A, len, cap, fs, e0, hl, hlc, hcm, hbb, hrd⟩ := open_slice_rdw (R := fun cs f => cs = fileC f) Tryz.underlying23 cells_file (by decide) w0 (fun n cs y h _ => file_rd h) g0
  obtain ⟨nx, e1, _⟩ := DataW.trod_int Tryz.underlying3 g1
  obtain ⟨sq, e2, _, hsq⟩ := DataW.trod_int Tryz.underlying24 g2
  obtain ⟨lg, e3, _⟩ := DataW.trod_int Tryz.underlying3 g3
  have hcs : cs = #[.slice A len cap, .int .i64 nx, .int .u64 sq, .int .i64 lg] := Array.toList_inj.1 (four hlen (one e0) (one e1) (one e2) (one e3))
  subst hcs
  obtain ⟨sq1, sq2⟩ := bd_u64 hsq
  obtain ⟨sqn, rfl⟩ : ∃ m : Nat, sq = (m : Int) := ⟨sq.toNat, by omega⟩
  rw [bytes_file] at hbb
  obtain ⟨u, hu, hc⟩ := hcell 0 _ rfl
  simp at hu
  subst hu
  exact ⟨A, len, cap, ⟨fs, nx, sqn, lg⟩, rfl, hl, slice_ok Tryz.underlying23 hc, hrd, by show fs.length < _; unfold reachBytes at hbb; omega, by show sqn < _; omega⟩
/-- NUMBERS AS AN ARGUMENT. -/
theorem ints_arg {v : Value} {fuel : Nat} {x : DataW H × List MemPlace} (hok : Value.okWide Tryz.prog W .any base 45 v) (hW : Within Tryz.prog reachBytes 45 x.1) (h : DataW.trod enc Tryz.prog W b0 spare held fuel 45 v.cells.toList = some x) :
    ∃ (A : Option Addr) (n c : Nat) (l : List Int), v = .slice A n c ∧ l.length = n ∧ Abs.SliceOk W A n c ∧ SliceRd W 1 (fun cs z => cs = [Value.int .i64 z]) A l := by
  obtain ⟨A, n, c, rfl⟩ := okWide_slice Tryz.underlying45 hok
  obtain ⟨A', len, cap, l, e0, hl, _, _, _, hrd⟩ := open_slice_rdw (R := fun cs z => cs = [Value.int .i64 z]) Tryz.underlying45 cells_int (by decide) hW (fun n cs y h _ => by
    obtain ⟨z, e, _⟩ := DataW.trod_int Tryz.underlying3 h
    exact ⟨z, e⟩) h
  cases e0
  refine ⟨A, n, c, l, rfl, hl, ?_, hrd⟩
  unfold Value.okWide at hok
  rw [Tryz.underlying45] at hok
  exact slice_ok Tryz.underlying45 hok
end
open Abs in
theorem tabs0 : ∃ b ws e, b < 4096 ∧ (stTabs tabs3).heap.get b = some (.const ws e) := by
  have h := List.all_eq_true.1 law11.tabs_in (tabs3.head (by simp [tabs3])) (List.head_mem _)
  obtain ⟨e, he⟩ := Abs.constIs_eq h
  exact ⟨_, _, e, (law11.tabs_ok _ (List.head_mem (by simp [tabs3]))).1, he⟩
open Abs in
/-- a version is put -/
theorem put_ver {W : World} {l : List (List Value × TypeId)} {q : List (Nat × Nat)} (hP : Put W l q) {A : Option Addr} {n c : Nat} (hA : SliceOk W A n c) {fs : List MF} (hn : fs.length = n) (hr : SliceRd W 4 (fun cs f => cs = fileC f) A fs) :
    ∃ l' q' sv, On l q l' q' ∧ Put W l' q' ∧ VRel (phiArgs q') sv (.slice A n c) ∧ FilesAt (stArgs tabs3 l') sv fs := by
  obtain ⟨l', q', sv, h1, h2, h3, ⟨a, c', rfl⟩, h5⟩ := put_flat (tabs := tabs3) tabs0 hP hA (g := fileC) (by decide) (fun _ => rfl) fileC_flat hn hr 41
  subst hn
  exact ⟨l', q', _, h1, h2, h3, ⟨_, _, rfl⟩, by rw [filesC_flat]; exact h5⟩
open Abs in
/-- numbers are put -/
theorem put_ints {W : World} {l : List (List Value × TypeId)} {q : List (Nat × Nat)} (hP : Put W l q) {A : Option Addr} {n c : Nat} (hA : SliceOk W A n c) {zs : List Int} (hn : zs.length = n) (hr : SliceRd W 1 (fun cs z => cs = [Value.int .i64 z]) A zs) :
    ∃ l' q' sv, On l q l' q' ∧ Put W l' q' ∧ VRel (phiArgs q') sv (.slice A n c) ∧ IntsB (stArgs tabs3 l') sv zs := by
  obtain ⟨l', q', sv, h1, h2, h3, ⟨a, c', rfl⟩, h5⟩ := put_flat (tabs := tabs3) tabs0 hP hA (g := fun z => [Value.int .i64 z]) (by decide) (fun _ => rfl) (fun z v hv => by rw [List.mem_singleton] at hv; subst hv; rfl) hn hr 3
  subst hn
  exact ⟨l', q', _, h1, h2, h3, ⟨_, _, rfl⟩, by rw [intsC_flat]; exact h5⟩
theorem ver_rel {φ : Abs.Phi} {sv : Value} {A : Option Addr} {n c : Nat} {u : MV} (h : Abs.VRel φ sv (.slice A n c)) : Abs.VRel φ (verV sv u) (.agg #[.slice A n c, .int .i64 u.next, .int .u64 (u.seq : Int), .int .i64 u.log]) := by
  obtain ⟨q1, q2⟩ := Abs.LRel.arr (φ := φ) (xs := #[sv, .int .i64 u.next, .int .u64 (u.seq : Int), .int .i64 u.log]) (ys := #[.slice A n c, .int .i64 u.next, .int .u64 (u.seq : Int), .int .i64 u.log]) (.cons h (.cons (.int _ _) (.cons (.int _ _) (.cons (.int _ _) (.nil _)))))
  exact .agg q1 q2
end Go.Proofs.YtbakhdgiimjnkaaGreatDoor.manArgs
