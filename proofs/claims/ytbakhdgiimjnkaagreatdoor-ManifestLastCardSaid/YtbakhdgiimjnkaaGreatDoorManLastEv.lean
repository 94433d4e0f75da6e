/-
  The law ManifestLast at the evaluator: it says true.
-/
import Derived.Test.YtbakhdgiimjnkaaGreatDoorMnS
import Derived.Test.YtbakhdgiimjnkaaGreatDoorEvSet
namespace Go.Proofs.YtbakhdgiimjnkaaGreatDoor
open Abs
set_option maxHeartbeats 16000000
set_option maxRecDepth 20000
set_option linter.unusedSimpArgs false
attribute [local irreducible] Abs.Ev Abs.EvF Abs.EvO Abs.EvA Abs.Seq Abs.Blk Abs.Body Abs.Scp Abs.EvG Abs.EvAg Abs.Nx
attribute [local go_sem] Tryz.underlying3 Ty.sz3 Ty.by3 Ty.ag3 Ty.ze3 Tryz.underlying4 Ty.sz4 Ty.by4 Ty.ag4 Ty.ze4 Tryz.underlying5 Ty.sz5 Ty.by5 Ty.ag5 Ty.ze5 Tryz.underlying9 Ty.sz9 Ty.by9 Ty.ag9 Ty.ze9 Tryz.underlying23 Ty.sz23 Ty.by23 Ty.ag23 Ty.ze23 Tryz.underlying24 Ty.sz24 Ty.by24 Ty.ag24 Ty.ze24 Tryz.underlying26 Ty.sz26 Ty.by26 Ty.ag26 Ty.ze26 Tryz.underlying28 Ty.sz28 Ty.by28 Ty.ag28 Ty.ze28 Tryz.underlying29 Ty.sz29 Ty.by29 Ty.ag29 Ty.ze29 Tryz.underlying41 Ty.sz41 Ty.by41 Ty.ag41 Ty.ze41 Tryz.underlying45 Ty.sz45 Ty.by45 Ty.ag45 Ty.ze45 Tryz.underlying51 Ty.sz51 Ty.by51 Ty.ag51 Ty.ze51 Tryz.underlying96 Ty.sz96 Ty.by96 Ty.ag96 Ty.ze96
section
variable {Sm : Summ}
def verC (sv : Value) (v : MV) : List Value := [sv, .int .i64 v.next, .int .u64 (v.seq : Int), .int .i64 v.log]
structure VersAt (s : St) (v : Value) (l : List MV) : Prop where
  is : ∃ a c, v = .slice a l.length c
  src : ∃ (sv : Nat → Value) (cs : List Value), srcCells s.heap 4 v = .ok (l.length, cs) ∧ ∀ i (h : i < l.length), (cs.drop (i * 4)).take 4 = verC (sv i) l[i] ∧ FilesAt s (sv i) l[i].files
theorem VersAt.cut {s : St} {v : Value} {l : List MV} (h : VersAt s v l) {i : Nat} (hi : i < l.length) : ∃ (b o c : Nat) (w : List Value) (sv : Nat → Value), v = .slice (some ⟨b, o, none⟩) l.length c ∧ objCells (s.heap.get b) = .ok w ∧ ∀ i (h : i < l.length), cutN w (o + i * 4) 4 = some (verC (sv i) l[i]) ∧ FilesAt s (sv i) l[i].files := by
  obtain ⟨⟨a, c, rfl⟩, sv, cs, h1, h2⟩ := h
  cases a with
  | none =>
    exfalso
    have : (0 : Nat) = l.length := by
      have e : srcCells s.heap 4 (.slice none l.length c) = .ok (0, []) := rfl
      rw [e] at h1
      exact congrArg (fun r => match r with | .ok (n, _) => n | _ => 0) h1
    omega
  | some q =>
    obtain ⟨b, o, sp⟩ := q
    cases sp with
    | some _ => cases h1
    | none =>
      obtain ⟨w, hw, hcut, hlen⟩ := src_parts h1
      refine ⟨b, o, c, w, sv, rfl, hw, fun j hj => ⟨?_, (h2 j hj).2⟩⟩
      rw [cutN_eq, if_pos (by omega), ← (h2 j hj).1, ← hcut, List.drop_take, List.take_take, List.drop_drop, Nat.min_eq_left (by omega)]
def noMV : MV := ⟨[], 0, 0, 0⟩
theorem Held.over {s0 s s' : St} {O : Nat → Prop} {b : Nat} {d : DD} {F : Fs} (h : Held s0 s O b d F) (hk : ∀ c x, O c → s.heap.get c = some x → s'.heap.get c = some x) (hn : s.next ≤ s'.next) (k : Keep s0 s') : Held s0 s' O b d F := by
  obtain ⟨I, h1, h2, h3⟩ := h.at_
  exact ⟨⟨I, h1.mono hk hn, h2, h3⟩, k⟩
theorem hload0_ev (n : NoMan Sm) {Q : Ans → Prop} {s0 s : St} {O : Nat → Prop} {b : Nat} {d : DD} {F : Fs} (hh : Held s0 s O b d F) {q : Int} (hp : Calm q d F none)
    (h : ∀ s', Keep s s' → Q (.val (.tuple #[verV (.slice none 0 0) ⟨[], 0, 0, 0⟩, .int .i64 4]) s')) :
    Ev Tryz.prog Sm (.inv (.fn (.func 21) #[]) [.pointer (some ⟨b, 0, none⟩)] s) Q := by
  obtain ⟨I, hd, ho, hI⟩ := hh.at_
  refine load0_ev n.load n.file hd hh.keep.wf (fun f hf => Nat.le_trans (hI f hf).2 (by decide)) ?_ h
  rw [hp.safe, show d.safe = [] from hp.names]
  rfl
theorem hlist_ev (n : NoMan Sm) {Q : Ans → Prop} {s0 s : St} {O : Nat → Prop} {b : Nat} {d : DD} {F : Fs} (hh : Held s0 s O b d F) {q : Int} {v : MV} (hp : Calm q d F (some v))
    (h : ∀ a c s', Keep s s' → Q (.val (.slice a 1 c) s')) :
    Ev Tryz.prog Sm (.inv (.fn (.func 26) #[]) [.pointer (some ⟨b, 0, none⟩)] s) Q := by
  obtain ⟨I, hd, ho, hI⟩ := hh.at_
  obtain ⟨g, e1, _⟩ := hp.names
  have e := hp.safe.trans e1
  refine list_ev n.file n.more hd hh.keep.wf (by rw [e]; simp [akeys]) (by rw [e]; exact (by decide : (1 : Nat) ≤ 1048576)) ?_ fun v' s' k hv _ => ?_
  · rw [e]
    intro k hk
    simp only [akeys, List.map_cons, List.map_nil, List.mem_singleton] at hk
    subst hk
    decide
  · rw [e] at hv
    obtain ⟨_, a, c, rfl⟩ := hv.src
    exact h _ _ _ k
theorem verC_drop (sv : Value) (v : MV) : List.drop (1 + 1 + 1 + 1) (verC sv v) = [] := rfl
theorem lastObj {s s' : St} (hk : ∀ b x, s.heap.get b = some x → s'.heap.get b = some x) {b : Nat} {w : List Value} (h : objCells (s.heap.get b) = .ok w) : objCells (s'.heap.get b) = .ok w := by
  cases hb : s.heap.get b with
  | none => rw [hb] at h; cases h
  | some x => rw [hb] at h; rw [hk b x hb]; exact h
attribute [local go_sem] verC_drop cut4 Option.isSome
set_option maxRecDepth 40000 in
theorem manifestLast_ev (hF : Sm 6 = none) {g : List Value → St → Rs (Value × St)} (hA : Sm 15 = some g) (h1 : Sm 23 = none) (h2 : Sm 24 = none) (n : NoMan Sm)
    {s : St} (hg : ∀ s', Keep s s' → g [] s' = .ok (.bool true, s')) (hwf : s.wf) {lv : Value} {l : List MV} (hl : VersAt s lv l) (hq : ∀ v ∈ l, v.seq < 18446744073709551616) (hln : ∀ v ∈ l, v.files.length < 140737488355328) (hll : l.length < 140737488355328) {pv : Value} {picks : List Int} (hp : IntsB s pv picks) :
    Ev Tryz.prog Sm (.inv (.fn (.func 6) #[]) [lv, pv] s) fun r => ∃ s', r = .val (.bool true) s' := by
  refine Ev.func hF Tryz.func6 rfl (m := 87) rfl ?_
  simp only [Array.toList_empty, List.append_nil, ofList_cons, ofList_nil]
  obtain ⟨⟨al, cl, rfl⟩, _⟩ := id hl
  (try first | refine EvO.nx ?_ | refine EvA.nx ?_); repeat' (first | refine Abs.go ?_ | with_reducible refine Abs.fork (fun hb => ?_) (fun hb => ?_))
  refine Ev.summ hA (hg _ (Keep.refl hwf)) ⟨_, _, rfl, ?_⟩
  (try first | refine EvO.nx ?_ | refine EvA.nx ?_); repeat' (first | refine Abs.go ?_ | with_reducible refine Abs.fork (fun hb => ?_) (fun hb => ?_))
  all_goals first | exact ⟨_, rfl⟩ | skip
  refine hnew_ev n hwf (q := 1048576) (by decide) fun s4 O4 bd d4 F4 hh4 hc4 => ⟨_, _, rfl, ?_⟩
  have hpos : 0 < l.length := by omega
  obtain ⟨b, o, c, w, sv, he, hw, hcut⟩ := hl.cut hpos
  cases he
  have hO4 : ¬ O4 s4.next := fun hx => absurd (hh4.lt hx) (Nat.lt_irrefl _)
  have hn4 := hh4.keep.next
  (try first | refine EvO.nx ?_ | refine EvA.nx ?_); repeat' (first | refine Abs.go ?_ | with_reducible refine Abs.fork (fun hb => ?_) (fun hb => ?_))
  refine Ev.loop (fun k a' s' => ∃ T i O' d' F' u su, a' = ⟨T, 87, []⟩ ∧ T.get 0 = some (.slice (some ⟨b, o, none⟩) l.length cl) ∧ T.get 1 = some pv ∧ T.get 5 = some (.pointer (some ⟨bd, 0, none⟩)) ∧ T.get 7 = some (.pointer (some ⟨s4.next, 0, none⟩)) ∧ T.get 8 = some (.bool (Option.isSome u)) ∧ T.get 9 = some (.int .i64 ((i : Nat) : Int)) ∧ i ≤ l.length ∧ k = l.length - i ∧
      Held s s' O' bd d' F' ∧ Calm 1048576 d' F' u ∧ s'.heap.get s4.next = some (.cells (verC su (u.getD noMV)) 26 0 false (0, 0)) ∧ ¬ O' s4.next ∧ FilesAt s su (u.getD noMV).files ∧ ∀ v, u = some v → GoodV v ∧ v.seq < 18446744073709551616 ∧ v.files.length ≤ 60) (k := l.length)
    ⟨_, 0, O4, d4, F4, none, .slice none 0 0, rfl, ?g0, ?g1, ?g5, ?g7, ?g8, ?g9, Nat.zero_le _, rfl, ?hh, hc4, ?hl, hO4, ⟨⟨none, 0, rfl⟩, rfl⟩, fun v hv => by cases hv⟩ ?_
  case g0 => simp (disch := first | omega | assumption) only [go_sem, ]
  case g1 => simp (disch := first | omega | assumption) only [go_sem, ]
  case g5 => simp (disch := first | omega | assumption) only [go_sem, ]
  case g7 => simp (disch := first | omega | assumption) only [go_sem, ]
  case g8 => simp (disch := first | omega | assumption) only [go_sem, ]; try rfl
  case g9 => simp (disch := first | omega | assumption) only [go_sem, ]; try rfl
  case hl => simp (disch := first | omega | assumption) only [go_sem, ]; try rfl
  case hh =>
    refine hh4.over (fun c x hc hx => ?_) (Nat.le_succ _) ?_
    · have := hh4.lt hc
      simp (disch := first | omega | assumption) only [go_sem, hx]
    · have hwf := hwf
      ((repeat (refine Abs.Keep.set2 ?_ (by omega) (by omega) hwf)); exact Abs.Keep.grow hh4.keep (by omega))
  rintro k a' s' ⟨T, i, O', d', F', u, su, rfl, g0, g1, g5, g7, g8, g9, hi, rfl, hh, hc, hlc, hnO, hsu, hu⟩
  have hw' := lastObj hh.keep.old hw
  have hbO : ∀ q, q < s.next → ¬ O' q := fun q hq ho => by
    obtain ⟨I, _, h3, _⟩ := hh.at_
    have := h3 q ho
    omega
  by_cases hil : i < l.length
  · obtain ⟨hci, hfi⟩ := hcut i hil
    have hqi := hq l[i] (List.getElem_mem hil)
    have hni := hln l[i] (List.getElem_mem hil)
    generalize l[i] = v at *
    obtain ⟨fs, nx, sq, lg⟩ := v
    generalize sv i = si at *
    obtain ⟨⟨fa, fc, rfl⟩, _⟩ := id hfi
    unfold verC at hci
    simp only at hfi hqi hni hci
    have hc0 : w[o + i * 4]? = some (.slice fa fs.length fc) := cut_at hci (i := 0) rfl
    (try first | refine EvO.nx ?_ | refine EvA.nx ?_); repeat' (first | refine Abs.goH (Abs.cc g0 (Abs.cc g9 (Abs.cc hw' (Abs.cc hci (hc0))))) ?_ | with_reducible refine Abs.fork (fun hb => ?_) (fun hb => ?_))
    refine may_ev h2 hh.keep.wf (sv := .slice fa fs.length fc) (v := ⟨fs, nx, sq, lg⟩) (hfi.mono hh.keep.old) hni (fun _ s2 k2 => ⟨_, _, rfl, ?_⟩) (fun hga s2 k2 => ⟨_, _, rfl, ?_⟩)
    · (try first | refine EvO.nx ?_ | refine EvA.nx ?_); repeat' (first | refine Abs.goH g9 ?_ | with_reducible refine Abs.fork (fun hb => ?_) (fun hb => ?_))
      refine ⟨l.length - (i + 1), by omega, _, i + 1, O', d', F', u, su, rfl, ?_, ?_, ?_, ?_, ?_, ?_, by omega, rfl, hh.old k2, hc, k2.old _ _ hlc, hnO, hsu, hu⟩
      · simp (disch := first | omega | assumption) only [go_sem, g0]
      · simp (disch := first | omega | assumption) only [go_sem, g1]
      · simp (disch := first | omega | assumption) only [go_sem, g5]
      · simp (disch := first | omega | assumption) only [go_sem, g7]
      · simp (disch := first | omega | assumption) only [go_sem, g8]
      · simp (disch := first | omega | assumption) only [go_sem, g9, Int.natCast_add, Int.natCast_one]
    have hw2 := lastObj k2.old hw'
    have hh2 := hh.old k2
    have hlc2 := k2.old _ _ hlc
    have hnn2 := Nat.le_trans hh.keep.next k2.next
    clear hw' hh hlc
    (try first | refine EvO.nx ?_ | refine EvA.nx ?_); repeat' (first | refine Abs.goH (Abs.cc g0 (Abs.cc g5 (Abs.cc g9 (Abs.cc hw2 (Abs.cc hci (hc0)))))) ?_ | with_reducible refine Abs.fork (fun hb => ?_) (fun hb => ?_))
    · refine ⟨l.length - (i + 1), by omega, _, i + 1, O', d', F', u, su, rfl, ?_, ?_, ?_, ?_, ?_, ?_, by omega, rfl, hh2, hc, hlc2, hnO, hsu, hu⟩
      · simp (disch := first | omega | assumption) only [go_sem, g0]
      · simp (disch := first | omega | assumption) only [go_sem, g1]
      · simp (disch := first | omega | assumption) only [go_sem, g5]
      · simp (disch := first | omega | assumption) only [go_sem, g7]
      · simp (disch := first | omega | assumption) only [go_sem, g8]
      · simp (disch := first | omega | assumption) only [go_sem, g9, Int.natCast_add, Int.natCast_one]
    have hl60 : fs.length ≤ 60 := by omega
    have hle := encV_le hga hqi
    simp only at hle
    refine hsave_ev n hwf hh2 hc (by decide) (sv := .slice fa fs.length fc) (v := ⟨fs, nx, sq, lg⟩) hfi hga (by show fs.length ≤ _; omega) hqi (fun _ => by decide) (fun w' hw' => by have := hu w' hw'; have := encV_le this.1 this.2.1; omega) (fun w' _ _ _ _ hw' _ _ _ hlt => by have := hu w' hw'; have := encV_le this.1 this.2.1; exfalso; omega) (fun s3 O3 d3 F3 mv3 hh3 hc3 => ⟨_, _, rfl, ?_⟩)
    have hw3 := lastObj hh3.keep.old hw
    have hlc3 := mv3.old _ _ hnO hlc2
    have hnO3 : ¬ O3 s4.next := fun ho => (mv3.new _ ho).elim hnO fun h => by have := hh2.keep.wf _ _ hlc2; omega
    (try first | refine EvO.nx ?_ | refine EvA.nx ?_); repeat' (first | refine Abs.goH (Abs.cc g0 (Abs.cc g1 (Abs.cc g5 (Abs.cc g7 (Abs.cc g9 (Abs.cc hw3 (Abs.cc hci (hlc3)))))))) ?_ | with_reducible refine Abs.fork (fun hb => ?_) (fun hb => ?_))
    all_goals (
      have hlt3 := hh3.keep.wf _ _ hlc3
      have hh6 : Held s ⟨s3.heap.set s4.next (.cells [.slice fa fs.length fc, .int .i64 nx, .int .u64 (sq : Int), .int .i64 lg] 26 0 false (0, 0)), s3.next⟩ O3 bd d3 F3 := hh3.over (fun c x hc hx => by
        have : c ≠ s4.next := fun e => hnO3 (e ▸ hc)
        simp (disch := first | omega | assumption) only [go_sem, hx]) (Nat.le_refl _) (Keep.set2 hh3.keep hn4 hlt3 hwf)
      have hlc6 : (⟨s3.heap.set s4.next (.cells [.slice fa fs.length fc, .int .i64 nx, .int .u64 (sq : Int), .int .i64 lg] 26 0 false (0, 0)), s3.next⟩ : St).heap.get s4.next = some (.cells (verC (.slice fa fs.length fc) ⟨fs, nx, sq, lg⟩) 26 0 false (0, 0)) := get_same _ _ _
      generalize (⟨s3.heap.set s4.next (.cells [.slice fa fs.length fc, .int .i64 nx, .int .u64 (sq : Int), .int .i64 lg] 26 0 false (0, 0)), s3.next⟩ : St) = s6 at *)
    · refine hcrash_ev n hwf hh6 hc3.stable hp fun s7 O7 mv7 hh7 => ⟨_, _, rfl, ?_⟩
      (try first | refine EvO.nx ?_ | refine EvA.nx ?_); repeat' (first | refine Abs.goH g9 ?_ | with_reducible refine Abs.fork (fun hb => ?_) (fun hb => ?_))
      refine ⟨l.length - (i + 1), by omega, _, i + 1, O7, _, F3, some ⟨fs, nx, sq, lg⟩, .slice fa fs.length fc, rfl, ?_, ?_, ?_, ?_, ?_, ?_, by omega, rfl, hh7, hc3.crash picks, mv7.old _ _ hnO3 hlc6, (fun ho => (mv7.new _ ho).elim hnO3 fun h => by have := hh6.keep.wf _ _ hlc6; omega), hfi, fun v hv => by cases hv; exact ⟨hga, hqi, hl60⟩⟩
      · simp (disch := first | omega | assumption) only [go_sem, g0]
      · simp (disch := first | omega | assumption) only [go_sem, g1]
      · simp (disch := first | omega | assumption) only [go_sem, g5]
      · simp (disch := first | omega | assumption) only [go_sem, g7]
      · simp (disch := first | omega | assumption) only [go_sem, g8]
        try rfl
      · simp (disch := first | omega | assumption) only [go_sem, g9, Int.natCast_add, Int.natCast_one]
    all_goals (
      refine ⟨l.length - (i + 1), by omega, _, i + 1, O3, d3, F3, some ⟨fs, nx, sq, lg⟩, .slice fa fs.length fc, rfl, ?_, ?_, ?_, ?_, ?_, ?_, by omega, rfl, hh6, hc3, hlc6, hnO3, hfi, fun v hv => by cases hv; exact ⟨hga, hqi, hl60⟩⟩
      · simp (disch := first | omega | assumption) only [go_sem, g0]
      · simp (disch := first | omega | assumption) only [go_sem, g1]
      · simp (disch := first | omega | assumption) only [go_sem, g5]
      · simp (disch := first | omega | assumption) only [go_sem, g7]
      · simp (disch := first | omega | assumption) only [go_sem, g8]
        try rfl
      · simp (disch := first | omega | assumption) only [go_sem, g9, Int.natCast_add, Int.natCast_one])
  · (try first | refine EvO.nx ?_ | refine EvA.nx ?_); repeat' (first | refine Abs.goH (Abs.cc g0 (Abs.cc g5 (g9))) ?_ | with_reducible refine Abs.fork (fun hb => ?_) (fun hb => ?_))
    cases u with
    | none =>
      refine hload0_ev n hh hc fun s6 k6 => ⟨_, _, rfl, ?_⟩
      unfold verV
      (try first | refine EvO.nx ?_ | refine EvA.nx ?_); repeat' (first | refine Abs.goH g8 ?_ | with_reducible refine Abs.fork (fun hb => ?_) (fun hb => ?_))
      exact ⟨_, rfl⟩
    | some v =>
      obtain ⟨hga, hqi, hl60⟩ := hu v rfl
      refine hload_ev n hh hc.stable hga hqi hl60 fun fv s6 k6 hf6 lo6 => ⟨_, _, rfl, ?_⟩
      obtain ⟨fva, fvc, rfl⟩ := hf6.is
      obtain ⟨⟨sua, suc, hsue⟩, _⟩ := id hsu
      have hlc6 : s6.heap.get s4.next = some (.cells [su, .int .i64 v.next, .int .u64 (v.seq : Int), .int .i64 v.log] 26 0 false (0, 0)) := k6.old _ _ hlc
      have hlt6 := k6.wf _ _ hlc6
      have hsu6 : FilesAt s6 su v.files := (hsu.mono hh.keep.old).mono k6.old
      have hh6 := hh.old k6
      obtain ⟨⟨sua, suc, rfl⟩, _⟩ := id hsu6
      unfold verV
      (try first | refine EvO.nx ?_ | refine EvA.nx ?_); repeat' (first | refine Abs.goH (Abs.cc g8 (Abs.cc g5 (Abs.cc g7 (hlc6)))) ?_ | with_reducible refine Abs.fork (fun hb => ?_) (fun hb => ?_))
      have hkn : Keep s6 ⟨(s6.heap.set s6.next (.cells [.slice none 0 0, .int .i64 0, .int .u64 0, .int .i64 0] 26 0 false (0, 0))).set s6.next (.cells [.slice fva v.files.length fvc, .int .i64 v.next, .int .u64 (v.seq : Int), .int .i64 v.log] 26 0 false (0, 0)), s6.next + 1⟩ := by
        have hwf := k6.wf
        ((repeat (refine Abs.Keep.set2 ?_ (by omega) (by omega) hwf)); exact Abs.Keep.grow (Keep.refl hwf) (by omega))
      refine same_ev h1 hkn.wf (sv := .slice fva v.files.length fvc) (su := .slice sua v.files.length suc) (v := v) (u := v) (hf6.mono hkn.old) (hsu6.mono hkn.old) (by omega) (fun hne => absurd rfl hne) (fun _ s7 k7 => ⟨_, _, rfl, ?_⟩)
      (try first | refine EvO.nx ?_ | refine EvA.nx ?_); repeat' (first | refine Abs.goH g5 ?_ | with_reducible refine Abs.fork (fun hb => ?_) (fun hb => ?_))
      refine hlist_ev n ((hh6.old hkn).old k7) hc fun la lc s8 k8 => ⟨_, _, rfl, ?_⟩
      (try first | refine EvO.nx ?_ | refine EvA.nx ?_); repeat' (first | refine Abs.go ?_ | with_reducible refine Abs.fork (fun hb => ?_) (fun hb => ?_))
      exact ⟨_, rfl⟩
end
end Go.Proofs.YtbakhdgiimjnkaaGreatDoor
