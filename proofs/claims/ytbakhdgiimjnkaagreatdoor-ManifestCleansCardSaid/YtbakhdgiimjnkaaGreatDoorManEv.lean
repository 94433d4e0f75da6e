/-
  manifest, versions: what same, may and good say, at the evaluator.
-/
import Derived.Test.YtbakhdgiimjnkaaGreatDoorBinRd2
import Derived.Test.YtbakhdgiimjnkaaGreatDoorEvB
import Derived.Test.YtbakhdgiimjnkaaGreatDoorPlA
import Derived.Test.YtbakhdgiimjnkaaGreatDoorEvSet
namespace Go.Proofs.YtbakhdgiimjnkaaGreatDoor
open Abs
set_option maxHeartbeats 16000000
set_option maxRecDepth 20000
set_option linter.unusedSimpArgs false
attribute [local irreducible] Abs.Ev Abs.EvF Abs.EvO Abs.EvA Abs.Seq Abs.Blk Abs.Body Abs.Scp Abs.EvG Abs.EvAg Abs.Nx
attribute [local go_sem] Abs.eDelete
attribute [local go_sem] Tryz.underlying3 Ty.sz3 Ty.by3 Ty.ag3 Ty.ze3 Tryz.underlying4 Ty.sz4 Ty.by4 Ty.ag4 Ty.ze4 Tryz.underlying5 Ty.sz5 Ty.by5 Ty.ag5 Ty.ze5 Tryz.underlying9 Ty.sz9 Ty.by9 Ty.ag9 Ty.ze9 Tryz.underlying23 Ty.sz23 Ty.by23 Ty.ag23 Ty.ze23 Tryz.underlying24 Ty.sz24 Ty.by24 Ty.ag24 Ty.ze24 Tryz.underlying26 Ty.sz26 Ty.by26 Ty.ag26 Ty.ze26 Tryz.underlying28 Ty.sz28 Ty.by28 Ty.ag28 Ty.ze28 Tryz.underlying41 Ty.sz41 Ty.by41 Ty.ag41 Ty.ze41 Tryz.underlying124 Ty.sz124 Ty.by124 Ty.ag124 Ty.ze124
section
variable {Sm : Summ} {Q : Ans → Prop}

def fileC (f : MF) : List Value := [.int .i64 f.num, .int .i64 f.level, .string ⟨⟨f.first⟩⟩, .string ⟨⟨f.last⟩⟩]
def filesC : List MF → List Value
  | [] => []
  | f :: l => fileC f ++ filesC l
theorem filesC_len : ∀ l : List MF, (filesC l).length = l.length * 4
  | [] => rfl
  | f :: l => by
    show (fileC f ++ filesC l).length = (l.length + 1) * 4
    rw [List.length_append, filesC_len l]
    show 4 + _ = _
    omega
theorem filesC_append (a b : List MF) : filesC (a ++ b) = filesC a ++ filesC b := by
  induction a with
  | nil => rfl
  | cons f a ih => show fileC f ++ filesC (a ++ b) = (fileC f ++ filesC a) ++ filesC b; rw [ih, List.append_assoc]
theorem filesC_at : ∀ (l : List MF) (i : Nat) (h : i < l.length), ((filesC l).drop (i * 4)).take 4 = fileC l[i]
  | f :: l, 0, _ => rfl
  | f :: l, i + 1, h => by
    have h' : i < l.length := by simpa using h
    show ((fileC f ++ filesC l).drop ((i + 1) * 4)).take 4 = fileC l[i]
    rw [show (i + 1) * 4 = (fileC f).length + i * 4 by show _ = 4 + i * 4; omega, List.drop_append]
    simp only [List.drop_eq_nil_of_le (Nat.le_add_right _ _), List.nil_append, Nat.add_sub_cancel_left]
    exact filesC_at l i h'
/-- files, as they lie -/
structure FilesAt (s : St) (v : Value) (l : List MF) : Prop where
  is : ∃ a c, v = .slice a l.length c
  src : srcCells s.heap 4 v = .ok (l.length, filesC l)
theorem FilesAt.mono {s s' : St} {v : Value} {l : List MF} (hk : ∀ b x, s.heap.get b = some x → s'.heap.get b = some x) (h : FilesAt s v l) : FilesAt s' v l := ⟨h.is, srcCells_mono hk h.src⟩
theorem FilesAt.cut {s : St} {b o n c : Nat} {l : List MF} (h : FilesAt s (.slice (some ⟨b, o, none⟩) n c) l) : n = l.length ∧ ∃ w, objCells (s.heap.get b) = .ok w ∧ ∀ (i : Nat) (hi : i < l.length), cutN w (o + i * 4) 4 = some (fileC l[i]) := by
  obtain ⟨a, c', e⟩ := h.is
  cases e
  have h2 := h.src
  obtain ⟨w, h1, h2, h3⟩ := src_parts h2
  refine ⟨rfl, w, h1, fun i hi => ?_⟩
  rw [cutN_eq, if_pos (by omega), ← filesC_at l i hi, ← h2, List.drop_take, List.take_take, List.drop_drop, Nat.min_eq_left (by omega)]
theorem cut_at {w r : List Value} {p n i : Nat} {v : Value} (h : cutN w p n = some r) (hi : r[i]? = some v) : w[p + i]? = some v := by
  obtain ⟨h1, rfl⟩ := cutN_some h
  rw [List.getElem?_take] at hi
  split at hi
  · rw [List.getElem?_drop] at hi; exact hi
  · cases hi
/-- a version, as a value -/
def verV (sv : Value) (v : MV) : Value := .agg #[sv, .int .i64 v.next, .int .u64 (v.seq : Int), .int .i64 v.log]
theorem obj_lt {s : St} (hwf : s.wf) {b : Nat} {w : List Value} (h : objCells (s.heap.get b) = .ok w) : b < s.next := by
  cases hb : s.heap.get b with
  | none => rw [hb] at h; cases h
  | some x => exact hwf _ _ hb
theorem keysI : KeyOf Tryz.prog 3 intV := Abs.keyOf_int Tryz.underlying3
theorem goodV_cut {fs : List MF} {nx lg : Int} {sq : Nat} (h0 : fs.length ≤ 1000) (h1 : 1 ≤ nx) (h2 : nx ≤ 999999) (h3 : 0 ≤ lg) (h4 : lg ≤ 999999) (h5 : ∀ i (h : i < fs.length), GoodF nx fs[i]) (h6 : (fs.map (·.num)).Nodup) : GoodV ⟨fs, nx, sq, lg⟩ :=
  ⟨h0, h1, h2, h3, h4, fun f hf => by obtain ⟨i, hi, rfl⟩ := List.getElem_of_mem hf; exact h5 i hi, h6⟩
theorem take_num {fs : List MF} {i : Nat} (h : i < fs.length) : (fs.take (i + 1)).map (·.num) = (fs.take i).map (·.num) ++ [fs[i].num] := by
  rw [List.take_add_one, List.getElem?_eq_getElem h, List.map_append]
  rfl
theorem num_in {fs : List MF} {i : Nat} (h : i < fs.length) (hm : fs[i].num ∈ (fs.take i).map (·.num)) : ¬ (fs.map (·.num)).Nodup := fun hn => by
  have h1 : ((fs.take (i + 1)).map (·.num)).Nodup := hn.sublist ((List.take_sublist _ _).map _)
  rw [take_num h, List.nodup_append] at h1
  exact h1.2.2 _ hm _ (List.mem_singleton.2 rfl) rfl
set_option maxRecDepth 20000 in
theorem good_ev (hs : Sm 46 = none) {s : St} (hwf : s.wf) {sv : Value} {v : MV} (hv : FilesAt s sv v.files) (hl : v.files.length < 1000000000) (hF : ¬ GoodV v → ∀ s', Keep s s' → Q (.val (.bool false) s')) (hT : GoodV v → ∀ s', Keep s s' → Q (.val (.bool true) s')) :
    Ev Tryz.prog Sm (.inv (.fn (.func 46) #[]) [verV sv v] s) Q := by
  refine Ev.func hs Tryz.func46 rfl (m := 80) rfl ?_
  simp only [Array.toList_empty, List.append_nil, ofList_cons, ofList_nil]
  obtain ⟨fs, nx, sq, lg⟩ := v
  obtain ⟨⟨a, c, rfl⟩, hsrc⟩ := id hv
  simp only at hv hsrc hl
  unfold verV
  (try first | refine EvO.nx ?_ | refine EvA.nx ?_); repeat' (first | refine Abs.go ?_ | with_reducible refine Abs.fork (fun hb => ?_) (fun hb => ?_))
  all_goals (try (refine hF (fun g => ?_) _ ((Keep.refl hwf).new _); obtain ⟨g0, g1, g2, g3, g4, _, _⟩ := g; simp only at g0 g1 g2 g3 g4; omega))
  refine Ev.loop (fun k a' s' => Keep s s' ∧ ∃ T i met, a' = ⟨T, 80, []⟩ ∧ T.get 1 = some (.pointer (some ⟨s.next, 0, none⟩)) ∧ T.get 3 = some (.map (some (s.next + 1))) ∧ T.get 32 = some (.slice a fs.length c) ∧ T.get 33 = some (.int .i64 (fs.length : Int)) ∧ T.get 34 = some (.int .i64 ((i : Nat) : Int)) ∧ i ≤ fs.length ∧ k = fs.length - i ∧
      s'.heap.get s.next = some (.cells [.slice a fs.length c, .int .i64 nx, .int .u64 (sq : Int), .int .i64 lg] 26 0 false (0, 0)) ∧ MapAt s' (s.next + 1) intV boolV met ∧ (∀ p ∈ met, p.2 = true) ∧ (∀ x, x ∈ akeys met ↔ x ∈ (fs.take i).map (·.num)) ∧ (∀ j (h : j < fs.length), j < i → GoodF nx fs[j]) ∧ ((fs.take i).map (·.num)).Nodup) (k := fs.length)
    ⟨((Keep.refl hwf).new _).new _, _, 0, [], rfl, ?g1, ?g3, ?g32, ?g33, ?g34, Nat.zero_le _, rfl, ?gv, ⟨[], 0, get_same _ _ _, .nil, ⟨fun e he => (by cases he), List.nodup_nil⟩⟩, fun p hp => (by cases hp), fun x => (by simp [akeys]), fun j h hj => absurd hj (Nat.not_lt_zero _), List.nodup_nil⟩ ?_
  case g1 => simp (disch := first | omega | assumption) only [go_sem, ]
  case g3 => simp (disch := first | omega | assumption) only [go_sem, ]
  case g32 => simp (disch := first | omega | assumption) only [go_sem, ]
  case g33 => simp (disch := first | omega | assumption) only [go_sem, ]
  case g34 => simp (disch := first | omega | assumption) only [go_sem, ]; try rfl
  case gv => simp (disch := first | omega | assumption) only [go_sem, ]
  rintro k a' s' ⟨hk, T, i, met, rfl, g1, g3, g32, g33, g34, hi, rfl, hver, hmap, hm1, hm2, hgo, hnd⟩
  by_cases hil : i < fs.length
  · cases a with
    | none =>
      have e : (0, ([] : List Value)) = (fs.length, filesC fs) := Rs.ok.inj hsrc
      have e1 : fs.length = 0 := (congrArg Prod.fst e).symm
      omega
    | some a =>
      obtain ⟨b, o, sp⟩ := a
      cases sp with
      | some _ => cases hsrc
      | none =>
        obtain ⟨_, w, hw, hcut⟩ := (hv.mono hk.old).cut
        have hlt := obj_lt hwf (hv.cut.2.choose_spec.1)
        have hc4 := hcut i hil
        have hG := fun g : GoodV ⟨fs, nx, sq, lg⟩ => g.all fs[i] (List.getElem_mem hil)
        have hN := fun (g : GoodV ⟨fs, nx, sq, lg⟩) hm => num_in hil hm g.nodup
        have hkn := hk.next
        have hwf' := hk.wf
        generalize hf : fs[i] = f at *
        obtain ⟨num, level, first, last⟩ := f
        unfold fileC at hc4
        simp only at hc4 hG hN
        obtain ⟨es, clock, hm, he, hbn⟩ := id hmap
        have hml := hk.wf _ _ hm
        rcases find_map keysI num met 0 he with ⟨j, v, q1, q2⟩ | ⟨q0, q2⟩
        · obtain rfl : v = true := hm1 _ (aget_mem q1)
          have hin : num ∈ (fs.take i).map (·.num) := (hm2 num).1 (List.mem_map_of_mem (f := (·.1)) (aget_mem q1))
          (try first | refine EvO.nx ?_ | refine EvA.nx ?_); repeat' (first | refine Abs.goH (Abs.cc g1 (Abs.cc g3 (Abs.cc g32 (Abs.cc g33 (Abs.cc g34 (Abs.cc hw (Abs.cc hc4 (Abs.cc hver (Abs.cc hm (Abs.cc q2 (keysI.ok))))))))))) ?_ | with_reducible refine Abs.fork (fun hb => ?_) (fun hb => ?_))
          all_goals exact hF (fun g => hN g hin) _ (by ((repeat (refine Abs.Keep.set2 ?_ (by omega) (by omega) hwf)); exact Abs.Keep.grow hk (by omega)))
        · have hnin : num ∉ (fs.take i).map (·.num) := fun x => (aget_none.1 q0) ((hm2 num).2 x)
          (try first | refine EvO.nx ?_ | refine EvA.nx ?_); repeat' (first | refine Abs.goH (Abs.cc g1 (Abs.cc g3 (Abs.cc g32 (Abs.cc g33 (Abs.cc g34 (Abs.cc hw (Abs.cc hc4 (Abs.cc hver (Abs.cc hm (Abs.cc q2 (keysI.ok))))))))))) ?_ | with_reducible refine Abs.fork (fun hb => ?_) (fun hb => ?_))
          all_goals (try (refine hF (fun g => ?_) _ (by ((repeat (refine Abs.Keep.set2 ?_ (by omega) (by omega) hwf)); exact Abs.Keep.grow hk (by omega))); obtain ⟨g1, g2, g3, g4, g5, g6⟩ := hG g; simp only at g1 g2 g3 g4 g5 g6; omega))
          have hk2 : Keep s ⟨(s'.heap.set s'.next (.cells [.int .i64 0, .int .i64 0, .string ⟨⟨[]⟩⟩, .string ⟨⟨[]⟩⟩] 41 0 false (0, 0))).set s'.next (.cells [.int .i64 num, .int .i64 level, .string ⟨⟨first⟩⟩, .string ⟨⟨last⟩⟩] 41 0 false (0, 0)), s'.next + 1⟩ := by ((repeat (refine Abs.Keep.set2 ?_ (by omega) (by omega) hwf)); exact Abs.Keep.grow hk (by omega))
          refine EvO.mput (κ := intV) (ν := boolV) (k := num) (v := true) Tryz.underlying124 keysI hk2.wf (hmap.mono fun x hx => by simp (disch := first | omega | assumption) only [go_sem, hx]) fun s2 m1 m2 m3 m4 => ?_
          have hv2 := m4 s.next _ (by omega) ((get_other _ _ _ _ (by omega)).trans ((get_other _ _ _ _ (by omega)).trans hver))
          (try first | refine EvO.nx ?_ | refine EvA.nx ?_); repeat' (first | refine Abs.goH (Abs.cc g1 (Abs.cc g3 (Abs.cc g32 (Abs.cc g33 (Abs.cc g34 (hv2)))))) ?_ | with_reducible refine Abs.fork (fun hb => ?_) (fun hb => ?_))
          refine ⟨fs.length - (i + 1), by omega, ⟨m3, by rw [m2]; show s.next ≤ s'.next + 1; omega, fun b x hb => m4 b x (by have := hwf b x hb; omega) (hk2.old b x hb)⟩, _, i + 1, aput met num true, rfl, ?_, ?_, ?_, ?_, ?_, by omega, rfl, hv2, m1, fun p hp => ?_, fun x => ?_, fun j h hj => ?_, ?_⟩
          · simp (disch := first | omega | assumption) only [go_sem, g1]
          · simp (disch := first | omega | assumption) only [go_sem, g3]
          · simp (disch := first | omega | assumption) only [go_sem, g32]
          · simp (disch := first | omega | assumption) only [go_sem, g33]
          · simp (disch := first | omega | assumption) only [go_sem, Int.natCast_add, Int.natCast_one]
          · rcases mem_aput hp with hp | rfl
            · exact hm1 p hp
            · rfl
          · rw [take_num hil, hf, List.mem_append, ← hm2, akeys_aput]
            split
            · rename_i hx
              exact absurd ((hm2 num).1 hx) hnin
            · simp
          · by_cases hji : j = i
            · subst hji
              rw [hf]
              exact ⟨by simp only; omega, by simp only; omega, by simp only; omega, by simp only; omega, by simp only; omega, by simp only; omega⟩
            · exact hgo j h (by omega)
          · rw [take_num hil, hf, List.nodup_append]
            exact ⟨hnd, by simp, fun x hx y hy => by rw [List.mem_singleton.1 hy]; rintro rfl; exact hnin hx⟩
  · (try first | refine EvO.nx ?_ | refine EvA.nx ?_); repeat' (first | refine Abs.goH (Abs.cc g1 (Abs.cc g3 (Abs.cc g32 (Abs.cc g33 (g34))))) ?_ | with_reducible refine Abs.fork (fun hb => ?_) (fun hb => ?_))
    obtain rfl : i = fs.length := by omega
    rw [List.take_length] at hnd
    exact hT (goodV_cut (by omega) (by omega) (by omega) (by omega) (by omega) (fun j h => hgo j h h) hnd) _ hk
theorem FilesAt.some {s : St} {a : Option Addr} {n c : Nat} {l : List MF} (h : FilesAt s (.slice a n c) l) (hl : l ≠ []) : ∃ b o, a = some ⟨b, o, none⟩ := by
  obtain ⟨a', c', e⟩ := h.is
  have h2 := h.src
  cases a with
  | none =>
    have e : (0, ([] : List Value)) = (l.length, filesC l) := Rs.ok.inj h2
    exact absurd (List.eq_nil_of_length_eq_zero (congrArg Prod.fst e).symm) hl
  | some a =>
    obtain ⟨b, o, sp⟩ := a
    cases sp with
    | some _ => cases h2
    | none => exact ⟨b, o, rfl⟩
set_option maxRecDepth 20000 in
theorem may_ev (hs : Sm 24 = none) {s : St} (hwf : s.wf) {sv : Value} {v : MV} (hv : FilesAt s sv v.files) (hl : v.files.length < 140737488355328) (hF : ¬ GoodV v → ∀ s', Keep s s' → Q (.val (.bool false) s')) (hT : GoodV v → ∀ s', Keep s s' → Q (.val (.bool true) s')) :
    Ev Tryz.prog Sm (.inv (.fn (.func 24) #[]) [verV sv v] s) Q := by
  refine Ev.func hs Tryz.func24 rfl (m := 88) rfl ?_
  simp only [Array.toList_empty, List.append_nil, ofList_cons, ofList_nil]
  obtain ⟨fs, nx, sq, lg⟩ := v
  obtain ⟨⟨a, c, rfl⟩, hsrc⟩ := id hv
  simp only at hv hsrc hl
  unfold verV
  (try first | refine EvO.nx ?_ | refine EvA.nx ?_); repeat' (first | refine Abs.go ?_ | with_reducible refine Abs.fork (fun hb => ?_) (fun hb => ?_))
  all_goals (try (refine hF (fun g => ?_) _ ((Keep.refl hwf).new _); obtain ⟨g0, g1, g2, g3, g4, _, _⟩ := g; simp only at g0 g1 g2 g3 g4; omega))
  refine Ev.loop (fun k a' s' => Keep s s' ∧ ∃ T i, a' = ⟨T, 88, []⟩ ∧ T.get 1 = some (.pointer (some ⟨s.next, 0, none⟩)) ∧ T.get 3 = some (.int .i64 ((i : Nat) : Int)) ∧ i ≤ fs.length ∧ k = fs.length - i ∧
      s'.heap.get s.next = some (.cells [.slice a fs.length c, .int .i64 nx, .int .u64 (sq : Int), .int .i64 lg] 26 0 false (0, 0)) ∧ (∀ j (h : j < fs.length), j < i → GoodF nx fs[j]) ∧ ((fs.take i).map (·.num)).Nodup) (k := fs.length)
    ⟨(Keep.refl hwf).new _, _, 0, rfl, ?g1, ?g3, Nat.zero_le _, rfl, get_same _ _ _, fun j h hj => absurd hj (Nat.not_lt_zero _), List.nodup_nil⟩ ?_
  case g1 => simp (disch := first | omega | assumption) only [go_sem, ]
  case g3 => simp (disch := first | omega | assumption) only [go_sem, ]; try rfl
  rintro k a' s' ⟨hk, T, i, rfl, g1, g3, hi, rfl, hver, hgo, hnd⟩
  by_cases hil : i < fs.length
  · obtain ⟨b, o, rfl⟩ := hv.some (by intro e; rw [e] at hil; exact absurd hil (Nat.not_lt_zero _))
    obtain ⟨_, w, hw, hcut⟩ := (hv.mono hk.old).cut
    have hlt := obj_lt hwf (hv.cut.2.choose_spec.1)
    have hc4 := hcut i hil
    have hG := fun g : GoodV ⟨fs, nx, sq, lg⟩ => g.all fs[i] (List.getElem_mem hil)
    have hN := fun (g : GoodV ⟨fs, nx, sq, lg⟩) hm => num_in hil hm g.nodup
    have hkn := hk.next
    have hwf' := hk.wf
    have hml := hk.wf _ _ hver
    generalize hf : fs[i] = f at *
    obtain ⟨num, level, first, last⟩ := f
    unfold fileC at hc4
    simp only at hc4 hG hN
    (try first | refine EvO.nx ?_ | refine EvA.nx ?_); repeat' (first | refine Abs.goH (Abs.cc g1 (Abs.cc g3 (Abs.cc hw (Abs.cc hc4 (hver))))) ?_ | with_reducible refine Abs.fork (fun hb => ?_) (fun hb => ?_))
    all_goals (try (refine hF (fun g => ?_) _ (by ((repeat (refine Abs.Keep.set2 ?_ (by omega) (by omega) hwf)); exact Abs.Keep.grow hk (by omega))); obtain ⟨g1, g2, g3, g4, g5, g6⟩ := hG g; simp only at g1 g2 g3 g4 g5 g6; omega))
    have hgf : GoodF nx ⟨num, level, first, last⟩ := ⟨by simp only; omega, by simp only; omega, by simp only; omega, by simp only; omega, by simp only; omega, by simp only; omega⟩
    obtain ⟨s2, hs2⟩ : ∃ s2 : St, s2 = ⟨(s'.heap.set s'.next (.cells [.int .i64 0, .int .i64 0, .string ⟨⟨[]⟩⟩, .string ⟨⟨[]⟩⟩] 41 0 false (0, 0))).set s'.next (.cells [.int .i64 num, .int .i64 level, .string ⟨⟨first⟩⟩, .string ⟨⟨last⟩⟩] 41 0 false (0, 0)), s'.next + 1⟩ := ⟨_, rfl⟩
    rw [← hs2]
    have hk2 : Keep s s2 := by rw [hs2]; ((repeat (refine Abs.Keep.set2 ?_ (by omega) (by omega) hwf)); exact Abs.Keep.grow hk (by omega))
    have hv2 : s2.heap.get s.next = some (.cells [.slice (some ⟨b, o, none⟩) fs.length c, .int .i64 nx, .int .u64 (sq : Int), .int .i64 lg] 26 0 false (0, 0)) := by rw [hs2]; simp (disch := first | omega | assumption) only [go_sem, hver]
    have hw2 : objCells (s2.heap.get b) = .ok w := by rw [hs2]; simp (disch := first | omega | assumption) only [go_sem, hw]
    have hf2 : s2.heap.get s'.next = some (.cells [.int .i64 num, .int .i64 level, .string ⟨⟨first⟩⟩, .string ⟨⟨last⟩⟩] 41 0 false (0, 0)) := by rw [hs2]; simp (disch := first | omega | assumption) only [go_sem, ]
    clear hs2
    refine Ev.loop (fun k a' s'' => s'' = s2 ∧ ∃ T q, a' = ⟨T, 88, []⟩ ∧ T.get 1 = some (.pointer (some ⟨s.next, 0, none⟩)) ∧ T.get 3 = some (.int .i64 ((i : Nat) : Int)) ∧ T.get 4 = some (.pointer (some ⟨s'.next, 0, none⟩)) ∧ T.get 5 = some (.int .i64 ((q : Nat) : Int)) ∧ q ≤ i ∧ k = i - q ∧ ∀ j (h : j < fs.length), j < q → fs[j].num ≠ num) (k := i)
      ⟨rfl, _, 0, rfl, ?l1, ?l3, ?l4, ?l5, Nat.zero_le _, rfl, fun j h hj => absurd hj (Nat.not_lt_zero _)⟩ ?_
    case l1 => simp (disch := first | omega | assumption) only [go_sem, g1]
    case l3 => simp (disch := first | omega | assumption) only [go_sem, g3]
    case l4 => simp (disch := first | omega | assumption) only [go_sem, ]
    case l5 => simp (disch := first | omega | assumption) only [go_sem, ]; try rfl
    rintro k a' s'' ⟨rfl, T, q, rfl, l1, l3, l4, l5, hqi, rfl, hne⟩
    by_cases hq : q < i
    · have hc5 := hcut q (by omega)
      have hc6 : w[o + q * 4]? = some (.int .i64 fs[q].num) := cut_at (i := 0) hc5 rfl
      (try first | refine EvO.nx ?_ | refine EvA.nx ?_); repeat' (first | refine Abs.goH (Abs.cc l1 (Abs.cc l3 (Abs.cc l4 (l5)))) ?_ | with_reducible refine Abs.fork (fun hb => ?_) (fun hb => ?_))
      refine Abs.Ev.regionD (n := 0) (l := [.go 0, .go 1, .go 2, .go 3, .go 4, .go 5, .go 6, .go 7, .go 8]) (by kernel_rfl) ?_
      (try first | refine EvO.nx ?_ | refine EvA.nx ?_); repeat' (first | refine Abs.goH (Abs.cc l1 (Abs.cc l3 (Abs.cc l4 (Abs.cc l5 (Abs.cc hv2 (Abs.cc hw2 (Abs.cc hf2 (hc6)))))))) ?_ | with_reducible refine Abs.fork (fun hb => ?_) (fun hb => ?_))
      · refine hF (fun g => hN g ?_) _ hk2
        rename_i hb
        rw [← hb]
        have hx : fs[q] ∈ fs.take i := List.mem_take_iff_getElem.2 ⟨q, by omega, rfl⟩
        exact List.mem_map.2 ⟨_, hx, rfl⟩
      · refine ⟨i - (q + 1), by omega, rfl, _, q + 1, rfl, ?_, ?_, ?_, ?_, by omega, rfl, fun j h hj => ?_⟩
        · simp (disch := first | omega | assumption) only [go_sem, l1]
        · simp (disch := first | omega | assumption) only [go_sem, l3]
        · simp (disch := first | omega | assumption) only [go_sem, l4]
        · simp (disch := first | omega | assumption) only [go_sem, Int.natCast_add, Int.natCast_one]
        · by_cases hjq : j = q
          · subst hjq
            assumption
          · exact hne j h (by omega)
    · obtain rfl : q = i := by omega
      (try first | refine EvO.nx ?_ | refine EvA.nx ?_); repeat' (first | refine Abs.goH (Abs.cc l1 (Abs.cc l3 (Abs.cc l4 (l5)))) ?_ | with_reducible refine Abs.fork (fun hb => ?_) (fun hb => ?_))
      refine ⟨fs.length - (q + 1), by omega, hk2, _, q + 1, rfl, ?_, ?_, by omega, rfl, hv2, fun j h hj => ?_, ?_⟩
      · simp (disch := first | omega | assumption) only [go_sem, l1]
      · simp (disch := first | omega | assumption) only [go_sem, Int.natCast_add, Int.natCast_one]
      · by_cases hji : j = q
        · subst hji
          rw [hf]
          exact hgf
        · exact hgo j h (by omega)
      · rw [take_num hil, hf, List.nodup_append]
        exact ⟨hnd, by simp, fun x hx y hy => by
          rw [List.mem_singleton.1 hy]
          rintro rfl
          obtain ⟨f, h1, h2⟩ := List.mem_map.1 hx
          obtain ⟨j, h3, rfl⟩ := List.mem_take_iff_getElem.1 h1
          exact hne j (by omega) (by omega) h2⟩
  · (try first | refine EvO.nx ?_ | refine EvA.nx ?_); repeat' (first | refine Abs.goH (Abs.cc g1 (Abs.cc g3 (hver))) ?_ | with_reducible refine Abs.fork (fun hb => ?_) (fun hb => ?_))
    obtain rfl : i = fs.length := by omega
    rw [List.take_length] at hnd
    exact hT (goodV_cut (by omega) (by omega) (by omega) (by omega) (by omega) (fun j h => hgo j h h) hnd) _ hk
theorem file_eq (h : Tr AObj) (f g : MF) : aEq Tryz.prog h 40 41 (.agg ⟨fileC f⟩) (.agg ⟨fileC g⟩) = ifb (iBeq f.num g.num) (ifb (iBeq f.level g.level) (ifb (bEq f.first g.first) (ifb (bEq f.last g.last) (.ok true) (.ok false)) (.ok false)) (.ok false)) (.ok false) := by kernel_rfl
theorem file_ne {h : Tr AObj} {c : Bool} {f g : MF} (hne : f ≠ g) : aBin Tryz.prog h .neq 41 c (.agg ⟨fileC f⟩) (.agg ⟨fileC g⟩) = .ok (.bool true) := by
  have e : aEq Tryz.prog h 40 41 (.agg ⟨fileC f⟩) (.agg ⟨fileC g⟩) = .ok false := by
    rw [file_eq]
    simp only [iBeq_eq, bEq_eq, ifb_eq]
    obtain ⟨a, b, c, d⟩ := f
    obtain ⟨a', b', c', d'⟩ := g
    simp only [ne_eq, MF.mk.injEq] at hne
    by_cases h1 : a = a'
    · by_cases h2 : b = b'
      · by_cases h3 : c = c'
        · by_cases h4 : d = d'
          · exact absurd ⟨h1, h2, h3, h4⟩ hne
          · simp [h4]
        · simp [h3]
      · simp [h2]
    · simp [h1]
  have e2 : eqOk Tryz.prog 41 c (.agg ⟨fileC f⟩) (.agg ⟨fileC g⟩) = true := by cases c <;> kernel_rfl
  show ifb (eqOk Tryz.prog 41 c (.agg ⟨fileC f⟩) (.agg ⟨fileC g⟩)) ((aEq Tryz.prog h 40 41 (.agg ⟨fileC f⟩) (.agg ⟨fileC g⟩)).bind fun b => Rs.ok (Value.bool !b)) (.no 33 "") = _
  rw [e2, e]
  rfl
theorem file_same {h : Tr AObj} {c : Bool} (f : MF) : aBin Tryz.prog h .neq 41 c (.agg ⟨fileC f⟩) (.agg ⟨fileC f⟩) = .ok (.bool false) := by
  have e : aEq Tryz.prog h 40 41 (.agg ⟨fileC f⟩) (.agg ⟨fileC f⟩) = .ok true := by
    rw [file_eq]
    simp [iBeq_eq, bEq_eq, ifb_eq]
  have e2 : eqOk Tryz.prog 41 c (.agg ⟨fileC f⟩) (.agg ⟨fileC f⟩) = true := by cases c <;> kernel_rfl
  show ifb (eqOk Tryz.prog 41 c (.agg ⟨fileC f⟩) (.agg ⟨fileC f⟩)) ((aEq Tryz.prog h 40 41 (.agg ⟨fileC f⟩) (.agg ⟨fileC f⟩)).bind fun b => Rs.ok (Value.bool !b)) (.no 33 "") = _
  rw [e2, e]
  rfl
set_option maxRecDepth 20000 in
theorem same_ev (hs : Sm 23 = none) {s : St} (hwf : s.wf) {sv su : Value} {v u : MV} (hv : FilesAt s sv v.files) (hu : FilesAt s su u.files) (hl : v.files.length < 1000000000) (hF : v ≠ u → ∀ s', Keep s s' → Q (.val (.bool false) s')) (hT : v = u → ∀ s', Keep s s' → Q (.val (.bool true) s')) :
    Ev Tryz.prog Sm (.inv (.fn (.func 23) #[]) [verV sv v, verV su u] s) Q := by
  refine Ev.func hs Tryz.func23 rfl (m := 52) rfl ?_
  simp only [Array.toList_empty, List.append_nil, ofList_cons, ofList_nil]
  obtain ⟨fs, nx, sq, lg⟩ := v
  obtain ⟨fs', nx', sq', lg'⟩ := u
  obtain ⟨⟨a, c, rfl⟩, hsrc⟩ := id hv
  obtain ⟨⟨a', c', rfl⟩, hsrc'⟩ := id hu
  simp only at hv hsrc hl hu hsrc'
  unfold verV
  (try first | refine EvO.nx ?_ | refine EvA.nx ?_); repeat' (first | refine Abs.go ?_ | with_reducible refine Abs.fork (fun hb => ?_) (fun hb => ?_))
  all_goals (try (refine hF (fun g => ?_) _ (by ((repeat (refine Abs.Keep.set2 ?_ (by omega) (by omega) hwf)); exact Abs.Keep.grow (Keep.refl hwf) (by omega))); injection g with g1 g2 g3 g4; subst g1; omega))
  have hlen : fs.length = fs'.length := by omega
  obtain ⟨s2, hs2⟩ : ∃ s2 : St, s2 = ⟨(s.heap.set s.next (.cells [.slice a fs.length c, .int .i64 nx, .int .u64 (sq : Int), .int .i64 lg] 26 0 false (0, 0))).set (s.next + 1) (.cells [.slice a' fs'.length c', .int .i64 nx', .int .u64 (sq' : Int), .int .i64 lg'] 26 0 false (0, 0)), s.next + 1 + 1⟩ := ⟨_, rfl⟩
  rw [← hs2]
  have hk2 : Keep s s2 := by rw [hs2]; ((repeat (refine Abs.Keep.set2 ?_ (by omega) (by omega) hwf)); exact Abs.Keep.grow (Keep.refl hwf) (by omega))
  have hv2 : s2.heap.get s.next = some (.cells [.slice a fs.length c, .int .i64 nx, .int .u64 (sq : Int), .int .i64 lg] 26 0 false (0, 0)) := by rw [hs2]; simp (disch := first | omega | assumption) only [go_sem, ]
  have hu2 : s2.heap.get (s.next + 1) = some (.cells [.slice a' fs'.length c', .int .i64 nx', .int .u64 (sq' : Int), .int .i64 lg'] 26 0 false (0, 0)) := by rw [hs2]; simp (disch := first | omega | assumption) only [go_sem, ]
  clear hs2
  refine Ev.loop (fun k a'' s'' => s'' = s2 ∧ ∃ T i, a'' = ⟨T, 52, []⟩ ∧ T.get 2 = some (.pointer (some ⟨s.next, 0, none⟩)) ∧ T.get 3 = some (.pointer (some ⟨s.next + 1, 0, none⟩)) ∧ T.get 5 = some (.int .i64 ((i : Nat) : Int)) ∧ i ≤ fs.length ∧ k = fs.length - i ∧ fs.take i = fs'.take i) (k := fs.length)
    ⟨rfl, _, 0, rfl, ?g2, ?g3, ?g5, Nat.zero_le _, rfl, rfl⟩ ?_
  case g2 => simp (disch := first | omega | assumption) only [go_sem, ]
  case g3 => simp (disch := first | omega | assumption) only [go_sem, ]
  case g5 => simp (disch := first | omega | assumption) only [go_sem, ]; try rfl
  rintro k a'' s'' ⟨rfl, T, i, rfl, g2, g3, g5, hi, rfl, heq⟩
  by_cases hil : i < fs.length
  · obtain ⟨b, o, rfl⟩ := hv.some (by intro e; rw [e] at hil; exact absurd hil (Nat.not_lt_zero _))
    obtain ⟨b', o', rfl⟩ := hu.some (by intro e; rw [hlen, e] at hil; exact absurd hil (Nat.not_lt_zero _))
    obtain ⟨_, w, hw, hcut⟩ := (hv.mono hk2.old).cut
    obtain ⟨_, w', hw', hcut'⟩ := (hu.mono hk2.old).cut
    have hc4 := hcut i hil
    have hc4' := hcut' i (by omega)
    have hG := fun g : fs = fs' => (show fs[i] = fs'[i] by subst g; rfl)
    have hE := fun g : fs[i] = fs'[i] => (show fs.take (i + 1) = fs'.take (i + 1) by rw [List.take_add_one, List.take_add_one, heq, List.getElem?_eq_getElem hil, List.getElem?_eq_getElem (by omega), g])
    generalize fs[i] = f at *
    generalize fs'[i] = g at *
    by_cases hfg : f = g
    · subst hfg
      have hne := fun (h : Tr AObj) (c : Bool) => file_same (h := h) (c := c) f
      (try first | refine EvO.nx ?_ | refine EvA.nx ?_); repeat' (first | refine Abs.goH (Abs.cc g2 (Abs.cc g3 (Abs.cc g5 (Abs.cc hv2 (hu2))))) ?_ | with_reducible refine Abs.fork (fun hb => ?_) (fun hb => ?_))
      refine Abs.Ev.regionD (n := 0) (l := [.go 0, .go 1, .go 2, .go 3, .go 4, .go 5, .go 6, .go 7, .go 8, .go 9, .go 10]) (by kernel_rfl) ?_
      (try first | refine EvO.nx ?_ | refine EvA.nx ?_); repeat' (first | refine Abs.goH (Abs.cc g2 (Abs.cc g3 (Abs.cc g5 (Abs.cc hv2 (Abs.cc hu2 (Abs.cc hw (Abs.cc hw' (Abs.cc hc4 (Abs.cc hc4' (hne)))))))))) ?_ | with_reducible refine Abs.fork (fun hb => ?_) (fun hb => ?_))
      refine ⟨fs.length - (i + 1), by omega, rfl, _, i + 1, rfl, ?_, ?_, ?_, by omega, rfl, hE rfl⟩
      · simp (disch := first | omega | assumption) only [go_sem, g2]
      · simp (disch := first | omega | assumption) only [go_sem, g3]
      · simp (disch := first | omega | assumption) only [go_sem, Int.natCast_add, Int.natCast_one]
    · have hne := fun (h : Tr AObj) (c : Bool) => file_ne (h := h) (c := c) hfg
      (try first | refine EvO.nx ?_ | refine EvA.nx ?_); repeat' (first | refine Abs.goH (Abs.cc g2 (Abs.cc g3 (Abs.cc g5 (Abs.cc hv2 (hu2))))) ?_ | with_reducible refine Abs.fork (fun hb => ?_) (fun hb => ?_))
      refine Abs.Ev.regionD (n := 0) (l := [.go 0, .go 1, .go 2, .go 3, .go 4, .go 5, .go 6, .go 7, .go 8, .go 9, .go 10]) (by kernel_rfl) ?_
      (try first | refine EvO.nx ?_ | refine EvA.nx ?_); repeat' (first | refine Abs.goH (Abs.cc g2 (Abs.cc g3 (Abs.cc g5 (Abs.cc hv2 (Abs.cc hu2 (Abs.cc hw (Abs.cc hw' (Abs.cc hc4 (Abs.cc hc4' (hne)))))))))) ?_ | with_reducible refine Abs.fork (fun hb => ?_) (fun hb => ?_))
      refine hF (fun e => hfg (hG ?_)) _ hk2
      injection e
  · (try first | refine EvO.nx ?_ | refine EvA.nx ?_); repeat' (first | refine Abs.goH (Abs.cc g2 (Abs.cc g3 (Abs.cc g5 (Abs.cc hv2 (hu2))))) ?_ | with_reducible refine Abs.fork (fun hb => ?_) (fun hb => ?_))
    obtain rfl : i = fs.length := by omega
    rw [List.take_length, hlen, List.take_length] at heq
    subst heq
    refine hT ?_ _ hk2
    rw [show nx = nx' by omega, show sq = sq' by omega, show lg = lg' by omega]
end
end Go.Proofs.YtbakhdgiimjnkaaGreatDoor
