/-
  The law ManifestSwitches at the evaluator: it says true.
-/
import Derived.Test.YtbakhdgiimjnkaaGreatDoorMnS
import Derived.Test.YtbakhdgiimjnkaaGreatDoorEvSet
namespace Go.Proofs.YtbakhdgiimjnkaaGreatDoor
open Abs
set_option maxHeartbeats 16000000
set_option maxRecDepth 20000
set_option linter.unusedSimpArgs false
attribute [local irreducible] Abs.Ev Abs.EvF Abs.EvO Abs.EvA Abs.Seq Abs.Blk Abs.Body Abs.Scp Abs.EvG Abs.EvAg Abs.Nx
attribute [local go_sem] Tryz.underlying3 Ty.sz3 Ty.by3 Ty.ag3 Ty.ze3 Tryz.underlying4 Ty.sz4 Ty.by4 Ty.ag4 Ty.ze4 Tryz.underlying5 Ty.sz5 Ty.by5 Ty.ag5 Ty.ze5 Tryz.underlying9 Ty.sz9 Ty.by9 Ty.ag9 Ty.ze9 Tryz.underlying23 Ty.sz23 Ty.by23 Ty.ag23 Ty.ze23 Tryz.underlying24 Ty.sz24 Ty.by24 Ty.ag24 Ty.ze24 Tryz.underlying26 Ty.sz26 Ty.by26 Ty.ag26 Ty.ze26 Tryz.underlying28 Ty.sz28 Ty.by28 Ty.ag28 Ty.ze28 Tryz.underlying29 Ty.sz29 Ty.by29 Ty.ag29 Ty.ze29 Tryz.underlying41 Ty.sz41 Ty.by41 Ty.ag41 Ty.ze41 Tryz.underlying45 Ty.sz45 Ty.by45 Ty.ag45 Ty.ze45 Tryz.underlying96 Ty.sz96 Ty.by96 Ty.ag96 Ty.ze96
section
variable {Sm : Summ}
attribute [local go_sem] cut4
set_option maxRecDepth 40000 in
theorem manifestSwitches_ev (hF : Sm 7 = none) {g : List Value → St → Rs (Value × St)} (hA : Sm 15 = some g) (h1 : Sm 23 = none) (h2 : Sm 24 = none) (n : NoMan Sm)
    {s : St} (hg : ∀ s', Keep s s' → g [] s' = .ok (.bool true, s')) (hwf : s.wf)
    {sa sb : Value} {a b : MV} (ha : FilesAt s sa a.files) (hb0 : FilesAt s sb b.files) (hqa : a.seq < 18446744073709551616) (hqb : b.seq < 18446744073709551616) (hla : a.files.length < 140737488355328) (hlb : b.files.length < 140737488355328) (room : Int) {pv tv : Value} {picks twice : List Int} (hp : IntsB s pv picks) (htw : IntsB s tv twice) :
    Ev Tryz.prog Sm (.inv (.fn (.func 7) #[]) [verV sa a, verV sb b, .int .i64 room, pv, tv] s) fun r => ∃ s', r = .val (.bool true) s' := by
  refine Ev.func hF Tryz.func7 rfl (m := 106) rfl ?_
  simp only [Array.toList_empty, List.append_nil, ofList_cons, ofList_nil]
  obtain ⟨fa, na, qa, ga⟩ := a
  obtain ⟨fb, nb, qb, gb⟩ := b
  obtain ⟨⟨aa, ca, rfl⟩, hsa⟩ := id ha
  obtain ⟨⟨ab, cb, rfl⟩, hsb⟩ := id hb0
  simp only at ha hb0 hsa hsb hqa hqb hla hlb
  unfold verV
  (try first | refine EvO.nx ?_ | refine EvA.nx ?_); repeat' (first | refine Abs.go ?_ | with_reducible refine Abs.fork (fun hb => ?_) (fun hb => ?_))
  have hk1 := ((Keep.refl hwf).new (.cells [.slice aa fa.length ca, .int .i64 na, .int .u64 (qa : Int), .int .i64 ga] 26 0 false (0, 0))).new (.cells [.slice ab fb.length cb, .int .i64 nb, .int .u64 (qb : Int), .int .i64 gb] 26 0 false (0, 0))
  refine Ev.summ hA (hg _ hk1) ⟨_, _, rfl, ?_⟩
  have hwf1 := hk1.wf
  have ga1 : (⟨(s.heap.set s.next (.cells [.slice aa fa.length ca, .int .i64 na, .int .u64 (qa : Int), .int .i64 ga] 26 0 false (0, 0))).set (s.next + 1) (.cells [.slice ab fb.length cb, .int .i64 nb, .int .u64 (qb : Int), .int .i64 gb] 26 0 false (0, 0)), s.next + 1 + 1⟩ : St).heap.get s.next = some (.cells [.slice aa fa.length ca, .int .i64 na, .int .u64 (qa : Int), .int .i64 ga] 26 0 false (0, 0)) := by simp (disch := first | omega | assumption) only [go_sem, ]
  have gb1 : (⟨(s.heap.set s.next (.cells [.slice aa fa.length ca, .int .i64 na, .int .u64 (qa : Int), .int .i64 ga] 26 0 false (0, 0))).set (s.next + 1) (.cells [.slice ab fb.length cb, .int .i64 nb, .int .u64 (qb : Int), .int .i64 gb] 26 0 false (0, 0)), s.next + 1 + 1⟩ : St).heap.get (s.next + 1) = some (.cells [.slice ab fb.length cb, .int .i64 nb, .int .u64 (qb : Int), .int .i64 gb] 26 0 false (0, 0)) := get_same _ _ _
  generalize (⟨(s.heap.set s.next (.cells [.slice aa fa.length ca, .int .i64 na, .int .u64 (qa : Int), .int .i64 ga] 26 0 false (0, 0))).set (s.next + 1) (.cells [.slice ab fb.length cb, .int .i64 nb, .int .u64 (qb : Int), .int .i64 gb] 26 0 false (0, 0)), s.next + 1 + 1⟩ : St) = s1 at *
  have fa1 := ha.mono hk1.old
  have fb1 := hb0.mono hk1.old
  have ip1 : IntsB s1 pv picks := hp.mono fun b x _ => hk1.old b x
  have it1 : IntsB s1 tv twice := htw.mono fun b x _ => hk1.old b x
  clear ha hb0 hsa hsb hp htw hg
  (try first | refine EvO.nx ?_ | refine EvA.nx ?_); repeat' (first | refine Abs.goH ga1 ?_ | with_reducible refine Abs.fork (fun hb => ?_) (fun hb => ?_))
  refine may_ev h2 hwf1 (sv := .slice aa fa.length ca) (v := ⟨fa, na, qa, ga⟩) fa1 (by show fa.length < _; omega) (fun _ s2 k2 => ⟨_, _, rfl, ?_⟩) (fun hga s2 k2 => ⟨_, _, rfl, ?_⟩)
  · (try first | refine EvO.nx ?_ | refine EvA.nx ?_); repeat' (first | refine Abs.go ?_ | with_reducible refine Abs.fork (fun hb => ?_) (fun hb => ?_))
    exact ⟨_, rfl⟩
  have gb2 := k2.old _ _ gb1
  (try first | refine EvO.nx ?_ | refine EvA.nx ?_); repeat' (first | refine Abs.goH gb2 ?_ | with_reducible refine Abs.fork (fun hb => ?_) (fun hb => ?_))
  refine may_ev h2 k2.wf (sv := .slice ab fb.length cb) (v := ⟨fb, nb, qb, gb⟩) (fb1.mono k2.old) (by show fb.length < _; omega) (fun _ s3 k3 => ⟨_, _, rfl, ?_⟩) (fun hgb s3 k3 => ⟨_, _, rfl, ?_⟩)
  · (try first | refine EvO.nx ?_ | refine EvA.nx ?_); repeat' (first | refine Abs.go ?_ | with_reducible refine Abs.fork (fun hb => ?_) (fun hb => ?_))
    exact ⟨_, rfl⟩
  have kk3 := k2.trans k3
  have ga3 := kk3.old _ _ ga1
  have gb3 := kk3.old _ _ gb1
  have fa3 := fa1.mono kk3.old
  have fb3 := fb1.mono kk3.old
  have ip3 : IntsB s3 pv picks := ip1.mono fun b x _ => kk3.old b x
  have it3 : IntsB s3 tv twice := it1.mono fun b x _ => kk3.old b x
  have wf3 := k3.wf
  clear k2 k3 kk3 ga1 gb1 fa1 fb1 ip1 it1 gb2 hk1 hwf1
  have hva := fa3.veq
  have hvb := fb3.veq
  (try first | refine EvO.nx ?_ | refine EvA.nx ?_); repeat' (first | refine Abs.goH (Abs.cc ga3 (Abs.cc gb3 (Abs.cc hva (hvb)))) ?_ | with_reducible refine Abs.fork (fun hb => ?_) (fun hb => ?_))
  all_goals first | exact ⟨_, rfl⟩ | skip
  have la : fa.length ≤ 60 := by omega
  have lb : fb.length ≤ 60 := by omega
  refine hnew_ev n wf3 (q := 1048576) (by decide) fun s4 O4 bd d4 F4 hh4 hc4 => ⟨_, _, rfl, ?_⟩
  have ga4 := hh4.keep.old _ _ ga3
  (try first | refine EvO.nx ?_ | refine EvA.nx ?_); repeat' (first | refine Abs.goH ga4 ?_ | with_reducible refine Abs.fork (fun hb => ?_) (fun hb => ?_))
  refine hsave_ev n wf3 hh4 hc4 (by decide) (sv := .slice aa fa.length ca) (v := ⟨fa, na, qa, ga⟩) fa3 hga (by show fa.length ≤ _; omega) hqa (fun _ => by decide) (fun w hw => by cases hw) (fun w _ _ _ _ hw => by cases hw) (fun s5 O5 d5 F5 _ hh5 hc5 => ⟨_, _, rfl, ?_⟩)
  have hle := encV_le hga hqa
  have hleb := encV_le hgb hqb
  simp only at hle hleb
  (try first | refine EvO.nx ?_ | refine EvA.nx ?_); repeat' (first | refine Abs.go1 ?_ | with_reducible refine Abs.fork (fun hb => ?_) (fun hb => ?_))
  refine Ev.forget (fun T => T.get 2 = some (.int .i64 room) ∧ T.get 3 = some pv ∧ T.get 4 = some tv ∧ T.get 5 = some (.pointer (some ⟨s.next, 0, none⟩)) ∧ T.get 6 = some (.pointer (some ⟨s.next + 1, 0, none⟩)) ∧ T.get 11 = some (.pointer (some ⟨bd, 0, none⟩))) ⟨by simp (disch := first | omega | assumption) only [go_sem, ], by simp (disch := first | omega | assumption) only [go_sem, ], by simp (disch := first | omega | assumption) only [go_sem, ], by simp (disch := first | omega | assumption) only [go_sem, ], by simp (disch := first | omega | assumption) only [go_sem, ], by simp (disch := first | omega | assumption) only [go_sem, ]⟩ ?_
  rintro T ⟨g2, g3, g4, g5, g6, g11⟩
  refine Ev.seq ?_
  refine Ev.mono (R := fun r => ∃ T s6 d6 q6, r = .at .normal ⟨T, 106, []⟩ s6 ∧ T.get 3 = some pv ∧ T.get 4 = some tv ∧ T.get 5 = some (.pointer (some ⟨s.next, 0, none⟩)) ∧ T.get 6 = some (.pointer (some ⟨s.next + 1, 0, none⟩)) ∧ T.get 11 = some (.pointer (some ⟨bd, 0, none⟩)) ∧ Held s3 s6 O5 bd d6 F5 ∧ Calm q6 d6 F5 (some ⟨fa, na, qa, ga⟩) ∧ 0 ≤ q6 ∧ q6 ≤ 1000000000) ?_ ?_
  · by_cases hr : 0 ≤ room ∧ room < 100000
    · (try first | refine EvO.nx ?_ | refine EvA.nx ?_); repeat' (first | refine Abs.goH (Abs.cc g2 (g11)) ?_ | with_reducible refine Abs.fork (fun hb => ?_) (fun hb => ?_))
      refine hstat_ev n hh5 hc5 (by omega) fun s6 x y z k6 hh6 => ⟨_, _, rfl, ?_⟩
      (try first | refine EvO.nx ?_ | refine EvA.nx ?_); repeat' (first | refine Abs.goH (Abs.cc g2 (g11)) ?_ | with_reducible refine Abs.fork (fun hb => ?_) (fun hb => ?_))
      refine hquota_ev n wf3 hh6 hc5 _ fun s7 d7 mv7 hh7 hc7 => ⟨_, _, rfl, ?_⟩
      (try first | refine EvO.nx ?_ | refine EvA.nx ?_); repeat' (first | refine Abs.go ?_ | with_reducible refine Abs.fork (fun hb => ?_) (fun hb => ?_))
      exact ⟨_, s7, d7, _, rfl, by simp (disch := first | omega | assumption) only [go_sem, g3], by simp (disch := first | omega | assumption) only [go_sem, g4], by simp (disch := first | omega | assumption) only [go_sem, g5], by simp (disch := first | omega | assumption) only [go_sem, g6], by simp (disch := first | omega | assumption) only [go_sem, g11], hh7, hc7, by omega, by omega⟩
    · (try first | refine EvO.nx ?_ | refine EvA.nx ?_); repeat' (first | refine Abs.goH (Abs.cc g2 (g11)) ?_ | with_reducible refine Abs.fork (fun hb => ?_) (fun hb => ?_))
      all_goals exact ⟨_, s5, d5, _, rfl, by simp (disch := first | omega | assumption) only [go_sem, g3], by simp (disch := first | omega | assumption) only [go_sem, g4], by simp (disch := first | omega | assumption) only [go_sem, g5], by simp (disch := first | omega | assumption) only [go_sem, g6], by simp (disch := first | omega | assumption) only [go_sem, g11], hh5, hc5, by decide, by decide⟩
  rintro r ⟨T, s6, d6, q6, rfl, g3, g4, g5, g6, g11, hh6, hc6, hq0, hq1⟩
  refine Seq.go ?_
  have gb6 := hh6.keep.old _ _ gb3
  (try first | refine EvO.nx ?_ | refine EvA.nx ?_); repeat' (first | refine Abs.goH (Abs.cc g6 (Abs.cc g11 (gb6))) ?_ | with_reducible refine Abs.fork (fun hb => ?_) (fun hb => ?_))
  have sv : ∀ Q' : Ans → Prop, (∀ e w su s7 O7 d7 F7, (e = 5 ∧ w = (⟨fa, na, qa, ga⟩ : MV) ∧ su = Value.slice aa fa.length ca ∨ e = 0 ∧ w = ⟨fb, nb, qb, gb⟩ ∧ su = Value.slice ab fb.length cb) → Held s3 s7 O7 bd d7 F7 → Stable d7 F7 w → Q' (.val (.int .i64 e) s7)) → Ev Tryz.prog Sm (.inv (.fn (.func 28) #[]) [.pointer (some ⟨bd, 0, none⟩), verV (.slice ab fb.length cb) ⟨fb, nb, qb, gb⟩] s6) Q' := fun Q' h =>
    hsave_ev n wf3 hh6 hc6 ⟨hq0, hq1⟩ (sv := .slice ab fb.length cb) (v := ⟨fb, nb, qb, gb⟩) fb3 hgb (by show fb.length ≤ _; omega) hqb (fun h => by cases h) (fun w hw => by cases hw; omega) (fun w s7 O7 d7 F7 hw _ hh7 hst7 _ => h 5 w (.slice aa fa.length ca) s7 O7 d7 F7 (.inl ⟨rfl, by cases hw; rfl, rfl⟩) hh7 hst7) (fun s7 O7 d7 F7 _ hh7 hc7 => h 0 _ (.slice ab fb.length cb) s7 O7 d7 F7 (.inr ⟨rfl, rfl, rfl⟩) hh7 hc7.stable)
  refine sv _ fun e w su s7 O7 d7 F7 hew hh7 hst7 => ⟨_, _, rfl, ?_⟩
  have hw : GoodV w ∧ w.seq < 18446744073709551616 ∧ w.files.length ≤ 60 ∧ FilesAt s3 su w.files := by
    rcases hew with ⟨_, rfl, rfl⟩ | ⟨_, rfl, rfl⟩
    · exact ⟨hga, hqa, la, fa3⟩
    · exact ⟨hgb, hqb, lb, fb3⟩
  obtain ⟨hwg, hwq, hwl, hwf3⟩ := hw
  clear sv
  rcases hew with ⟨rfl, hwe⟩ | ⟨rfl, hwe⟩
  all_goals (
    (try first | refine EvO.nx ?_ | refine EvA.nx ?_); repeat' (first | refine Abs.goH (Abs.cc g3 (g11)) ?_ | with_reducible refine Abs.fork (fun hb => ?_) (fun hb => ?_))
    refine hcrash_ev n wf3 hh7 hst7 ip3 fun s8 O8 mv8 hh8 => ⟨_, _, rfl, ?_⟩
    have hst8 := hst7.crash picks
    (try first | refine EvO.nx ?_ | refine EvA.nx ?_); repeat' (first | refine Abs.goH g11 ?_ | with_reducible refine Abs.fork (fun hb => ?_) (fun hb => ?_))
    refine hload_ev n hh8 hst8 hwg hwq hwl fun fv s9 k9 hf9 lo9 => ⟨_, _, rfl, ?_⟩
    obtain ⟨fva, fvc, rfl⟩ := hf9.is
    unfold verV
    (try first | refine EvO.nx ?_ | refine EvA.nx ?_); repeat' (first | refine Abs.goH (Abs.cc g4 (g11)) ?_ | with_reducible refine Abs.fork (fun hb => ?_) (fun hb => ?_))
    have hlt9 := hh8.keep.next
    have hkn : Keep s9 ⟨(s9.heap.set s9.next (.cells [.slice none 0 0, .int .i64 0, .int .u64 0, .int .i64 0] 26 0 false (0, 0))).set s9.next (.cells [.slice fva w.files.length fvc, .int .i64 w.next, .int .u64 (w.seq : Int), .int .i64 w.log] 26 0 false (0, 0)), s9.next + 1⟩ := by
      have hwf := k9.wf
      ((repeat (refine Abs.Keep.set2 ?_ (by omega) (by omega) hwf)); exact Abs.Keep.grow (Keep.refl hwf) (by omega))
    have hh9 := (hh8.old k9).old hkn
    have hc9 : (⟨(s9.heap.set s9.next (.cells [.slice none 0 0, .int .i64 0, .int .u64 0, .int .i64 0] 26 0 false (0, 0))).set s9.next (.cells [.slice fva w.files.length fvc, .int .i64 w.next, .int .u64 (w.seq : Int), .int .i64 w.log] 26 0 false (0, 0)), s9.next + 1⟩ : St).heap.get s9.next = some (.cells [.slice fva w.files.length fvc, .int .i64 w.next, .int .u64 (w.seq : Int), .int .i64 w.log] 26 0 false (0, 0)) := get_same _ _ _
    have hf9' := hf9.mono hkn.old
    have hO9 : ∀ q, s8.next ≤ q → ¬ O8 q := fun q hq ho => by have := hh8.lt ho; omega
    generalize (⟨(s9.heap.set s9.next (.cells [.slice none 0 0, .int .i64 0, .int .u64 0, .int .i64 0] 26 0 false (0, 0))).set s9.next (.cells [.slice fva w.files.length fvc, .int .i64 w.next, .int .u64 (w.seq : Int), .int .i64 w.log] 26 0 false (0, 0)), s9.next + 1⟩ : St) = s10 at *
    refine hcrash_ev n wf3 hh9 hst8 it3 fun s11 O11 mv11 hh11 => ⟨_, _, rfl, ?_⟩
    have hst11 := hst8.crash twice
    have hc11 := mv11.old _ _ (hO9 _ k9.next) hc9
    have hf11 := hf9'.mv mv11 (fun q hq => hO9 q (lo9 q hq))
    (try first | refine EvO.nx ?_ | refine EvA.nx ?_); repeat' (first | refine Abs.goH g11 ?_ | with_reducible refine Abs.fork (fun hb => ?_) (fun hb => ?_))
    refine hload_ev n hh11 hst11 hwg hwq hwl fun fu s12 k12 hf12 lo12 => ⟨_, _, rfl, ?_⟩
    obtain ⟨fua, fuc, rfl⟩ := hf12.is
    have hc12 := k12.old _ _ hc11
    have hf12' := hf11.mono k12.old
    have hl12 := k12.wf _ _ hc12
    unfold verV
    (try first | refine EvO.nx ?_ | refine EvA.nx ?_); repeat' (first | refine Abs.goH hc12 ?_ | with_reducible refine Abs.fork (fun hb => ?_) (fun hb => ?_))
    have hkn2 : Keep s12 ⟨(s12.heap.set s12.next (.cells [.slice none 0 0, .int .i64 0, .int .u64 0, .int .i64 0] 26 0 false (0, 0))).set s12.next (.cells [.slice fua w.files.length fuc, .int .i64 w.next, .int .u64 (w.seq : Int), .int .i64 w.log] 26 0 false (0, 0)), s12.next + 1⟩ := by
      have hwf := k12.wf
      ((repeat (refine Abs.Keep.set2 ?_ (by omega) (by omega) hwf)); exact Abs.Keep.grow (Keep.refl hwf) (by omega))
    refine same_ev h1 hkn2.wf (sv := .slice fva w.files.length fvc) (su := .slice fua w.files.length fuc) (v := w) (u := w) (hf12'.mono hkn2.old) (hf12.mono hkn2.old) (by omega) (fun hne => absurd rfl hne) (fun _ s13 k13 => ⟨_, _, rfl, ?_⟩)
    have hc13 := k13.old _ _ (hkn2.old _ _ hc12)
    have hf13 := (hf12'.mono hkn2.old).mono k13.old
    have kk := ((hh11.keep.trans k12).trans hkn2).trans k13
    have ga13 := kk.old _ _ ga3
    have gb13 := kk.old _ _ gb3
    have fa13 := fa3.mono kk.old
    have fb13 := fb3.mono kk.old
    (try first | refine EvO.nx ?_ | refine EvA.nx ?_); repeat' (first | refine Abs.goH (Abs.cc hc13 (Abs.cc g5 (Abs.cc g6 (Abs.cc ga13 (gb13))))) ?_ | with_reducible refine Abs.fork (fun hb => ?_) (fun hb => ?_))
    first
    | refine same_ev h1 k13.wf (sv := .slice fva w.files.length fvc) (su := .slice aa fa.length ca) (v := w) (u := ⟨fa, na, qa, ga⟩) hf13 fa13 (by omega) (fun hne => absurd hwe.1 hne) (fun _ s14 k14 => ⟨_, _, rfl, ?_⟩)
    | refine same_ev h1 k13.wf (sv := .slice fva w.files.length fvc) (su := .slice ab fb.length cb) (v := w) (u := ⟨fb, nb, qb, gb⟩) hf13 fb13 (by omega) (fun hne => absurd hwe.1 hne) (fun _ s14 k14 => ⟨_, _, rfl, ?_⟩)
    (try first | refine EvO.nx ?_ | refine EvA.nx ?_); repeat' (first | refine Abs.go ?_ | with_reducible refine Abs.fork (fun hb => ?_) (fun hb => ?_))
    exact ⟨_, rfl⟩)
end
end Go.Proofs.YtbakhdgiimjnkaaGreatDoor
