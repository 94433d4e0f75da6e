/-
  Over the given program, the row ManifestBytes holds: for every input that the row speaks of, the law returns true and leaves its arguments as they were. No condition beyond the given row's own (its list of package variables as the card ties it).
-/
import Derived.Test.YtbakhdgiimjnkaaGreatDoorRows
import Derived.Test.YtbakhdgiimjnkaaGreatDoorAwake11
import Derived.Test.YtbakhdgiimjnkaaGreatDoorManBytesEv
import Derived.Test.YtbakhdgiimjnkaaGreatDoorManifestKnownTabs
import Derived.Test.YtbakhdgiimjnkaaGreatDoorManifestBytesWit
import Derived.Test.YtbakhdgiimjnkaaGreatDoorManifestBytesFacts
import Derived.Test.YtbakhdgiimjnkaaGreatDoorArgsEv
import Derived.LaidMore
import Derived.Test.YtbakhdgiimjnkaaGreatDoorRow
import Derived.Deep.DeepHandedRow
import Derived.Deep.DeepWitnessRowRef
namespace Go.Proofs.YtbakhdgiimjnkaaGreatDoor.manifestBytes
open Go.ChangeShapes Go.WideShapes Go.ChangeAt Go.RowKit

theorem own : ownKnob Tryz.prog.godebug = none := by kernel_rfl
theorem laidOut : laidOutB Tryz.prog = true := by kernel_rfl
theorem body : ∃ c, (Tryz.f4).body = some c := ⟨_, rfl⟩
theorem cells_file : Tryz.prog.cellsOf 41 = 4 := by kernel_rfl
theorem cells_ver : Tryz.prog.cellsOf 26 = 4 := by kernel_rfl
theorem cells_sfile : Tryz.prog.cellsOf 23 = 1 := by kernel_rfl
theorem cells_int : Tryz.prog.cellsOf 3 = 1 := by kernel_rfl
theorem cells_u64 : Tryz.prog.cellsOf 24 = 1 := by kernel_rfl
theorem cells_string : Tryz.prog.cellsOf 9 = 1 := by kernel_rfl
theorem bytes_file : Tryz.prog.bytesOf 41 = 48 := by kernel_rfl
theorem types_ver : Tryz.prog.cellTypes Tryz.prog.depth 26 = some [23, 3, 24, 3] := by kernel_rfl
theorem noBin : NoBin law11.SmM := ⟨by kernel_rfl, by kernel_rfl, by kernel_rfl, by kernel_rfl, by kernel_rfl, by kernel_rfl, by kernel_rfl, by kernel_rfl, by kernel_rfl, by kernel_rfl, by kernel_rfl⟩
theorem one {l : List Value} {i : Nat} {v : Value} (h : (l.drop i).take 1 = [v]) : l[i]? = some v := by
  have := congrArg (fun l => l[0]?) h
  simpa using this
theorem four {l : List Value} {a b c d : Value} (hl : l.length = 4) (h0 : l[0]? = some a) (h1 : l[1]? = some b) (h2 : l[2]? = some c) (h3 : l[3]? = some d) : l = [a, b, c, d] := by
  match l, hl with
  | [p, q, r, s], _ => simp at h0 h1 h2 h3; simp [h0, h1, h2, h3]
section
variable {H : Type} {enc : TypeId × Value → H} {w : World} {base : Nat} {spare : Nat → Bool} {held : Bool}
theorem file_rd {n : Nat} {cs : List Value} {y : DataW H × List MemPlace} (h : DataW.trod enc Tryz.prog w base spare held n 41 cs = some y) : ∃ f, cs = fileC f := by
  obtain ⟨hl, hf⟩ := field_rd Tryz.underlying41 h
  rw [cells_file] at hl
  obtain ⟨n0, y0, h0⟩ := hf 0 _ rfl
  obtain ⟨n1, y1, h1⟩ := hf 1 _ rfl
  obtain ⟨n2, y2, h2⟩ := hf 2 _ rfl
  obtain ⟨n3, y3, h3⟩ := hf 3 _ rfl
  change DataW.trod enc Tryz.prog w base spare held n0 3 ((cs.drop 0).take (Tryz.prog.cellsOf 3)) = some y0 at h0
  rw [cells_int] at h0
  change DataW.trod enc Tryz.prog w base spare held n1 3 ((cs.drop 1).take (Tryz.prog.cellsOf 3)) = some y1 at h1
  rw [cells_int] at h1
  change DataW.trod enc Tryz.prog w base spare held n2 9 ((cs.drop 2).take (Tryz.prog.cellsOf 9)) = some y2 at h2
  rw [cells_string] at h2
  change DataW.trod enc Tryz.prog w base spare held n3 9 ((cs.drop 3).take (Tryz.prog.cellsOf 9)) = some y3 at h3
  rw [cells_string] at h3
  obtain ⟨a, e0, _⟩ := DataW.trod_int Tryz.underlying3 h0
  obtain ⟨b, e1, _⟩ := DataW.trod_int Tryz.underlying3 h1
  obtain ⟨c, e2, _⟩ := DataW.trod_string Tryz.underlying9 h2
  obtain ⟨d, e3, _⟩ := DataW.trod_string Tryz.underlying9 h3
  exact ⟨⟨a, b, c.data.toList, d.data.toList⟩, four hl (one e0) (one e1) (one e2) (one e3)⟩
end
theorem fileC_flat (f : MF) : ∀ v ∈ fileC f, Abs.constOk v = true := by
  intro v hv
  simp only [fileC, List.mem_cons, List.mem_nil_iff, or_false] at hv
  rcases hv with rfl | rfl | rfl | rfl <;> rfl
theorem filesC_get : ∀ (l : List MF) (j : Nat), (filesC l)[j]? = (l[j / 4]?).bind fun f => (fileC f)[j % 4]?
  | [], j => by simp [filesC]
  | f :: l, j => by
    show (fileC f ++ filesC l)[j]? = _
    by_cases h : j < 4
    · rw [List.getElem?_append_left (by exact h), Nat.div_eq_of_lt h, Nat.mod_eq_of_lt h]
      rfl
    · rw [List.getElem?_append_right (by show 4 ≤ j; omega), show (fileC f).length = 4 from rfl, filesC_get l (j - 4)]
      obtain ⟨k, rfl⟩ : ∃ k, j = k + 4 := ⟨j - 4, by omega⟩
      rw [Nat.add_sub_cancel, show (k + 4) / 4 = k / 4 + 1 by omega, show (k + 4) % 4 = k % 4 by omega]
      rfl
/-- THE WALK. -/
theorem walk (W : World) (hL : laidMetH Tryz.prog Rows.manifestBytesRow.laid W) (a : Option Addr) (n c : Nat) (nx lg at_ cut : Int) (sq by_ : Nat) (fs : List MF)
    (hn : fs.length = n) (ha : ∀ a', a = some a' → ∃ b off, a' = ⟨b, off, none⟩ ∧ (∃ cs u fr, W.heap[b]? = some (.cells cs u fr)) ∧ n ≤ c ∧ c ≤ 9223372036854775807) (h0 : a = none → n = 0 ∧ c = 0)
    (hr : SliceRd W 4 (fun cs f => cs = fileC f) a fs) (hl : fs.length < 140737488355328) (hsq : sq < 18446744073709551616) (hby : by_ < 256) (hcut : -9223372036854775808 ≤ cut ∧ cut ≤ 9223372036854775807) :
    Calls Tryz.prog 4 #[.agg #[.slice a n c, .int .i64 nx, .int .u64 (sq : Int), .int .i64 lg], .int .i64 at_, .int .u8 (by_ : Int), .int .i64 cut] W (TrueMod W) := by
  obtain ⟨bd, hc⟩ := body
  have hT : Abs.SRel Abs.phiNil (Abs.stTabs tabs3) W := manifestKnown.tables hL
  have htl : ∀ t ∈ tabs3, t.1 < 4096 := fun t ht => (law11.tabs_ok t ht).1
  have key : ∀ (sv : Value) (l : List (List Value × TypeId)) (locs : List (Nat × Nat)), Abs.SRel (Abs.phiArgs locs) (Abs.stArgs tabs3 l) W → Abs.VRel (Abs.phiArgs locs) sv (.slice a n c) → FilesAt (Abs.stArgs tabs3 l) sv fs →
      Calls Tryz.prog 4 #[.agg #[.slice a n c, .int .i64 nx, .int .u64 (sq : Int), .int .i64 lg], .int .i64 at_, .int .u8 (by_ : Int), .int .i64 cut] W (TrueMod W) := fun sv l locs hS hV hA => by
    refine Abs.law_of_ev (Sm := law11.SmM) (args := [verV sv ⟨fs, nx, sq, lg⟩, .int .i64 at_, .int .u8 (by_ : Int), .int .i64 cut]) law11.mixed law11.smM_ok law11.numOk Tryz.func4 hc (by kernel_rfl) hS (fun b x hb => Abs.stArgs_const htl hb) ?_ ?_
    · obtain ⟨q1, q2⟩ := Abs.LRel.arr (xs := #[sv, .int .i64 nx, .int .u64 (sq : Int), .int .i64 lg]) (ys := #[.slice a n c, .int .i64 nx, .int .u64 (sq : Int), .int .i64 lg]) (.cons hV (.cons (.int _ _) (.cons (.int _ _) (.cons (.int _ _) (.nil _)))))
      exact .cons (.agg q1 q2) (.cons (.int _ _) (.cons (.int _ _) (.cons (.int _ _) (.nil _))))
    · exact manifestBytes_ev (by kernel_rfl) (g := Abs.sumTrue tabs3) (by kernel_rfl) (by kernel_rfl) (by kernel_rfl) (by kernel_rfl) (by kernel_rfl) noBin (fun s' hk => law11.says hk) (Abs.stArgs_wf htl) hA hsq hl at_ cut by_ hby hcut
  cases a with
  | none =>
    obtain ⟨rfl, rfl⟩ := h0 rfl
    obtain rfl : fs = [] := List.eq_nil_of_length_eq_zero hn
    exact key (.slice none 0 0) [] [] (Abs.srel_args htl hT rfl fun i a p h => by simp at h) .nilSlice ⟨⟨none, 0, rfl⟩, rfl⟩
  | some a =>
    obtain ⟨b, off, rfl, ⟨cs, u, fr, hb⟩, hnc, hcm⟩ := ha a rfl
    refine key (.slice (some ⟨4096, 0, none⟩) n c) [(filesC fs, 41)] [(b, off)] (Abs.srel_args htl hT rfl fun i a p h1 h2 => ?_) ?_ ?_
    · match i, h1, h2 with
      | 0, h1, h2 =>
        simp only [List.getElem?_cons_zero, Option.some.injEq] at h1 h2
        subst h1 h2
        refine ⟨cs, u, fr, hb, fun j v hv => ⟨v, ?_, (Abs.constOk_flat ?_).rel _⟩⟩
        · rw [filesC_get] at hv
          obtain ⟨f, hf1, hf2⟩ := Option.bind_eq_some_iff.1 hv
          obtain ⟨hi, rfl⟩ := List.getElem?_eq_some_iff.1 hf1
          obtain ⟨b', off', cs', e, _, _, hcell, rfl⟩ := hr (j / 4) hi
          cases e
          have := hcell (j % 4) (Nat.mod_lt _ (by decide))
          rw [cells_at hb, hf2, Nat.add_assoc, show j / 4 * 4 + j % 4 = j by omega] at this
          exact this
        · rw [filesC_get] at hv
          obtain ⟨f, hf1, hf2⟩ := Option.bind_eq_some_iff.1 hv
          exact fileC_flat f v (List.mem_of_getElem? hf2)
    · have h := Abs.VRel.slice (φ := Abs.phiArgs [(b, off)]) (b := 4096) (n := n) (c := c) (L := ⟨b, off, 0, 0⟩) 0 (show Abs.phiArgs [(b, off)] 4096 = some ⟨b, off, 0, 0⟩ from Abs.phiArgs_at (locs := [(b, off)]) (i := 0) (p := (b, off)) rfl) (by unfold Abs.open_; omega) hnc
      exact h
    · refine ⟨⟨_, _, by rw [hn]⟩, ?_⟩
      rw [hn]
      exact Abs.src_const (show (Abs.stArgs tabs3 [(filesC fs, 41)]).heap.get 4096 = some (.const (filesC fs) 41) from Abs.stArgs_arg (i := 0) (a := (filesC fs, 41)) rfl) (by rw [filesC_len, hn])

set_option maxRecDepth 100000 in
theorem lifted (os : Os) (started : os.Started) (H : Type) (enc : TypeId × Value → H) (F : Stop.Interp) :
    ReturnsInHanded {} Tryz.checked os 4 .any ((OpenSpec.ofChange Rows.manifestBytesSpec).preRow enc Tryz.prog Tryz.f4 Rows.manifestBytesRow.domain false Rows.manifestBytesRow.laid) (((OpenSpec.ofChange Rows.manifestBytesSpec).at F).post enc Tryz.prog Tryz.f4 false true false false) := by
  refine returnsInHanded_of_row (C := Tryz.checked) (s := OpenSpec.ofChange Rows.manifestBytesSpec) own started (by kernel_rfl) Tryz.func4 (witness os H enc) ?_
  intro W base args ds gs before hval hW _ _ hz hL _ _
  have hW0 := hW
  obtain ⟨p, q, hA, hV, _, _, _⟩ := hW
  obtain ⟨rfl, rfl⟩ := trodVars_none hV
  have hz' : (DataW.weightsEach Tryz.prog Tryz.f4.params.toList ds).all (· ≤ reachBytes) = true := by
    have h := hz
    rw [show (OpenSpec.ofChange Rows.manifestBytesSpec).bare.plain.varTypes Tryz.checked.prog = [] from rfl, List.append_nil, List.append_nil] at h
    exact h
  rw [Tryz.params4] at hA hval hz'
  obtain ⟨v0, vs0, d0, ds0, p0, q0, hargs, rfl, rfl, h0, r0⟩ := trodAll_cons hA
  obtain ⟨v1, vs1, d1, ds1, p1, q1, rfl, rfl, rfl, h1, r1⟩ := trodAll_cons r0
  obtain ⟨v2, vs2, d2, ds2, p2, q2, rfl, rfl, rfl, h2, r2⟩ := trodAll_cons r1
  obtain ⟨v3, vs3, d3, ds3, p3, q3, rfl, rfl, rfl, h3, r3⟩ := trodAll_cons r2
  obtain ⟨rfl, rfl, rfl⟩ := trodAll_nil r3
  obtain rfl : args = #[v0, v1, v2, v3] := by cases args; simp_all
  have hok : Value.okWide Tryz.prog W .any base 26 v0 := hval 0 26 v0 rfl rfl
  unfold Value.okWide at hok
  rw [Tryz.underlying26] at hok
  obtain ⟨cs, rfl, _, ts, hts, _, hcell⟩ := hok
  obtain rfl : ts = [23, 3, 24, 3] := Option.some.inj (hts.symm.trans types_ver)
  obtain ⟨fuel0, hf0⟩ := h0
  obtain ⟨hlen, hfld⟩ := field_rdw (B := reachBytes) Tryz.underlying26 (Within.of_all hz' (j := 0) rfl rfl) hf0
  rw [cells_ver] at hlen
  obtain ⟨n0, y0, g0, w0⟩ := hfld 0 _ rfl
  obtain ⟨n1, y1, g1, _⟩ := hfld 1 _ rfl
  obtain ⟨n2, y2, g2, _⟩ := hfld 2 _ rfl
  obtain ⟨n3, y3, g3, _⟩ := hfld 3 _ rfl
  replace g0 : DataW.trod enc Tryz.prog W 0 (fun _ => true) true n0 23 ((cs.toList.drop 0).take 1) = some y0 := by rw [← cells_sfile]; exact g0
  replace g1 : DataW.trod enc Tryz.prog W 0 (fun _ => true) true n1 3 ((cs.toList.drop 1).take 1) = some y1 := by rw [← cells_int]; exact g1
  replace g2 : DataW.trod enc Tryz.prog W 0 (fun _ => true) true n2 24 ((cs.toList.drop 2).take 1) = some y2 := by rw [← cells_u64]; exact g2
  replace g3 : DataW.trod enc Tryz.prog W 0 (fun _ => true) true n3 3 ((cs.toList.drop 3).take 1) = some y3 := by rw [← cells_int]; exact g3
  obtain ⟨A, len, cap, fs, e0, hl, hlc, hcm, hbb, hrd⟩ := open_slice_rdw (R := fun cs f => cs = fileC f) Tryz.underlying23 cells_file (by decide) w0 (fun n cs y h _ => file_rd h) g0
  obtain ⟨nx, e1, _⟩ := DataW.trod_int Tryz.underlying3 g1
  obtain ⟨sq, e2, _, hsq⟩ := DataW.trod_int Tryz.underlying24 g2
  obtain ⟨lg, e3, _⟩ := DataW.trod_int Tryz.underlying3 g3
  have hcs : cs = #[.slice A len cap, .int .i64 nx, .int .u64 sq, .int .i64 lg] := Array.toList_inj.1 (four hlen (one e0) (one e1) (one e2) (one e3))
  subst hcs
  obtain ⟨sq1, sq2⟩ := bd_u64 hsq
  obtain ⟨z1, rfl⟩ := okWide_int Tryz.underlying3 ((show Value.okWide Tryz.prog W .any base 3 v1 from hval 1 3 v1 rfl rfl))
  obtain ⟨z2, rfl⟩ := okWide_int Tryz.underlying5 ((show Value.okWide Tryz.prog W .any base 5 v2 from hval 2 5 v2 rfl rfl))
  obtain ⟨z3, rfl⟩ := okWide_int Tryz.underlying3 ((show Value.okWide Tryz.prog W .any base 3 v3 from hval 3 3 v3 rfl rfl))
  obtain ⟨fuel2, hf2⟩ := h2
  obtain ⟨y2, ee2, _, hy2⟩ := DataW.trod_int Tryz.underlying5 hf2
  simp [Value.cells] at ee2
  subst ee2
  obtain ⟨by1, by2⟩ := bd_u8 hy2
  obtain ⟨fuel3, hf3⟩ := h3
  obtain ⟨y3, ee3, _, hy3⟩ := DataW.trod_int Tryz.underlying3 hf3
  simp [Value.cells] at ee3
  subst ee3
  obtain ⟨sqn, rfl⟩ : ∃ m : Nat, sq = (m : Int) := ⟨sq.toNat, by omega⟩
  obtain ⟨byn, rfl⟩ : ∃ m : Nat, z2 = (m : Int) := ⟨z2.toNat, by omega⟩
  rw [bytes_file] at hbb
  have hA0 : A = none → len = 0 ∧ cap = 0 := fun e => by
    subst e
    obtain ⟨u, hu, hc⟩ := hcell 0 _ rfl
    simp at hu
    subst hu
    unfold Cell.okWide at hc
    rw [Tryz.underlying23] at hc
    have hc : Cell.ok Tryz.prog W .any base 23 (.slice none len cap) := hc
    unfold Cell.ok at hc
    rw [Tryz.underlying23] at hc
    split at hc <;> first | (rename_i h1 h2; cases h2; exact ⟨rfl, rfl⟩) | (rename_i h1 h2; cases h2; done) | cases hc
  have hAs : ∀ a', A = some a' → ∃ b off, a' = ⟨b, off, none⟩ ∧ (∃ cs u fr, W.heap[b]? = some (.cells cs u fr)) ∧ len ≤ cap ∧ cap ≤ 9223372036854775807 := fun a' e => by
    subst e
    obtain ⟨u, hu, hc⟩ := hcell 0 _ rfl
    simp at hu
    subst hu
    exact slice_block Tryz.underlying23 hc
  refine (walk W hL A len cap nx lg z1 z3 sqn byn fs hl hAs hA0 hrd (by unfold reachBytes at hbb; omega) (by omega) (by omega) (bd_i64 hy3)).mono fun e W' ⟨he, hm⟩ => ⟨_, he, ?_⟩
  refine law_post laidOut (by rw [Tryz.params4]; decide +kernel) rfl (by kernel_rfl) Tryz.underlying4 (fun ds hl => ?_) hW0 hm
  rw [Tryz.params4] at hl
  obtain ⟨d0, d1, d2, d3, rfl⟩ := len4 hl
  exact ⟨rfl, rfl, rfl⟩
theorem said : Rows.ManifestBytesSaid :=
  OpenClaim.holds_of_cond 4 Tryz.f4 rfl rfl rfl rfl rfl rfl rfl ⟨rfl, rfl, rfl, rfl, rfl⟩ rfl rfl rfl rfl rfl (by kernel_rfl) Tryz.func4 facts
    (of_decide_eq_true (by kernel_rfl)) (by unfold Func.isWrapper; first | (rw [if_pos (by decide +kernel)]; kernel_rfl) | (rw [if_neg (by decide +kernel)]; exact ⟨rfl, rfl⟩))
    (fun os started H enc _ F => by rw [OpenClaim.pre_eq_preRow]; exact lifted os started H enc F)
end Go.Proofs.YtbakhdgiimjnkaaGreatDoor.manifestBytes
