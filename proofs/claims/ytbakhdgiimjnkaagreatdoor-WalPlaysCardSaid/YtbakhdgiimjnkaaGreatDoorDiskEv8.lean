/-
  simdisk: Crash, at the evaluator.
-/
import Derived.Test.YtbakhdgiimjnkaaGreatDoorDkB
import Derived.Test.YtbakhdgiimjnkaaGreatDoorEvCut
import Derived.Test.YtbakhdgiimjnkaaGreatDoorEvSet
set_option linter.unusedVariables false
set_option linter.unusedSimpArgs false
namespace Go.Proofs.YtbakhdgiimjnkaaGreatDoor
open Abs
set_option maxHeartbeats 16000000
set_option maxRecDepth 20000
set_option linter.unusedSimpArgs false
attribute [local irreducible] Abs.Ev Abs.EvF Abs.EvO Abs.EvA Abs.Seq Abs.Blk Abs.Body Abs.Scp Abs.EvG Abs.EvAg Abs.Nx
attribute [local go_sem] Tryz.underlying3 Ty.sz3 Ty.by3 Ty.ag3 Ty.ze3 Tryz.underlying4 Ty.sz4 Ty.by4 Ty.ag4 Ty.ze4 Tryz.underlying5 Ty.sz5 Ty.by5 Ty.ag5 Ty.ze5 Tryz.underlying9 Ty.sz9 Ty.by9 Ty.ag9 Ty.ze9 Tryz.underlying28 Ty.sz28 Ty.by28 Ty.ag28 Ty.ze28 Tryz.underlying34 Ty.sz34 Ty.by34 Ty.ag34 Ty.ze34 Tryz.underlying46 Ty.sz46 Ty.by46 Ty.ag46 Ty.ze46 Tryz.underlying88 Ty.sz88 Ty.by88 Ty.ag88 Ty.ze88 Tryz.underlying89 Ty.sz89 Ty.by89 Ty.ag89 Ty.ze89 Tryz.underlying96 Ty.sz96 Ty.by96 Ty.ag96 Ty.ze96 Tryz.underlying98 Ty.sz98 Ty.by98 Ty.ag98 Ty.ze98 Tryz.underlying101 Ty.sz101 Ty.by101 Ty.ag101 Ty.ze101 Tryz.underlying103 Ty.sz103 Ty.by103 Ty.ag103 Ty.ze103
section
variable {Sm : Summ} {Q : Ans → Prop}
theorem chgC_put (c : Chg) (x y z : Value) : chgC c ++ List.drop 3 [x, y, z] = chgC c := List.append_nil _
theorem IntsB.lt {s : St} (hwf : s.wf) {v : Value} {l : List Int} (h : IntsB s v l) {x : Nat} (hx : inBlk v x) : x < s.next := by
  obtain ⟨⟨a, c, rfl⟩, h1⟩ := h
  obtain ⟨o', m', c', e⟩ := hx
  cases e
  obtain ⟨w, hw, _, _⟩ := src_parts h1
  cases hg : s.heap.get x with
  | none => rw [hg] at hw; cases hw
  | some y => exact hwf x y hg
attribute [local go_sem] List.set_cons_zero List.set_cons_succ chgC_one chgC_put keyS
/-- the changes that a crash keeps -/
theorem crash1_ev (hm : NoMore Sm) (hn : NoFile Sm) (hp : Sm 65 = none) (hdo : Sm 66 = none) (hs : Sm 27 = none) {s : St} {O : Nat → Prop} {b : Nat} {d : DD} {F : Fs} {I : Nat → Prop} (hd : DkAt s O b d F I) (hwf : s.wf) {pv : Value} {picks : List Int} (hv : IntsB s pv picks) (hpO : ∀ c, inBlk pv c → ¬ O c) (hc : d.chgs.length ≤ 1000000000)
    (hnd : (akeys (d.kept picks)).Nodup) (hsz : (d.kept picks).length ≤ 1048576) (hlen : ∀ k ∈ akeys (d.kept picks), k.length ≤ 1048576) (hsafe : ∀ f, I f → (F f).safe ≤ (F f).bytes.length ∧ (F f).bytes.length ≤ 35184372088832)
    (h : ∀ s' O', Mv O O' s s' → DkAt s' O' b (d.crash picks) (d.crashF picks F) I → Q (.val (.tuple #[]) s')) :
    Ev Tryz.prog Sm (.inv (.fn (.func 27) #[]) [.pointer (some ⟨b, 0, none⟩), pv] s) Q := by
  refine Ev.func hs Tryz.func27 rfl (m := 105) rfl ?_
  simp only [Array.toList_empty, List.append_nil, ofList_cons, ofList_nil]
  obtain ⟨mn, ms, cv, e1, e2, e3, e4, e5, e6, e7, e8⟩ := hd.ex
  have hbl := hd.lt b hd.own
  (try first | refine EvO.nx ?_ | refine EvA.nx ?_); repeat' (first | refine Abs.goH e1 ?_ | with_reducible refine Abs.fork (fun hb => ?_) (fun hb => ?_))
  obtain ⟨s1, hs1⟩ : ∃ s1 : St, s1 = ⟨s.heap.set b (.cells [.int .i64 d.quota, .map (some ms), .map (some ms), cv, .int .i64 d.appends, .int .i64 d.syncs] 96 0 false (0, 0)), s.next⟩ := ⟨_, rfl⟩
  rw [← hs1]
  have hb1 : s1.heap.get b = some (.cells [.int .i64 d.quota, .map (some ms), .map (some ms), cv, .int .i64 d.appends, .int .i64 d.syncs] 96 0 false (0, 0)) := by rw [hs1]; exact get_same _ _ _
  have ho1 : ∀ x y, x ≠ b → s.heap.get x = some y → s1.heap.get x = some y := fun x y hx hy => by rw [hs1]; exact (get_other _ _ _ _ hx).trans hy
  have hw1 : s1.wf := by rw [hs1]; exact wf_put hwf e1 _
  have hn1 : s1.next = s.next := by rw [hs1]
  clear hs1
  have hh1 : HalfAt s1 O b ms cv d d.safe F I := hd.half e1 hb1 ho1 (by omega)
  have hv1 : IntsB s1 pv picks := hv.mono fun x y hx hy => ho1 x y (by rintro rfl; exact hpO _ hx hd.own) hy
  refine Abs.Ev.regionD (n := 0) (l := [.go 0, .go 1, .go 2, .go 3, .go 4, .go 5, .go 6, .go 7, .go 8, .go 9, .go 10, .go 14, .go 11, .again 3, .go 12, .go 13]) (by kernel_rfl) ?_
  have hcv := hh1.vec.src
  obtain ⟨ca, cc, rfl⟩ := hcv.2
  (try first | refine EvO.nx ?_ | refine EvA.nx ?_); repeat' (first | refine Abs.goH hb1 ?_ | with_reducible refine Abs.fork (fun hb => ?_) (fun hb => ?_))
  refine pick_ev hp hv1 (i := 0) (n := d.chgs.length + 1) (by omega) (by omega) (by omega) ⟨_, _, rfl, ?_⟩
  have hpk : pickN picks 0 (d.chgs.length + 1) ≤ d.chgs.length := by have := pickN_lt picks 0 (d.chgs.length + 1) (by omega); omega
  obtain ⟨wa, wc, w1, w2, w3⟩ := hh1.vec.pre (P := Tryz.prog) Tryz.underlying89 Ty.sz103 (by decide) (by unfold open_; omega) hpk
  have hkept : d.kept picks = (d.chgs.take (pickN picks 0 (d.chgs.length + 1))).foldl Chg.go d.safe := rfl
  generalize hk : pickN picks 0 (d.chgs.length + 1) = k at *
  have hva := hh1.vec.veq
  simp (disch := first | omega | assumption) only [go_sem] at w1
  (try first | refine EvO.nx ?_ | refine EvA.nx ?_); repeat' (first | refine Abs.goH (Abs.cc hb1 (Abs.cc hva (w1))) ?_ | with_reducible refine Abs.fork (fun hb => ?_) (fun hb => ?_))
  clear w1
  refine Ev.loop (fun q a' s' => ∃ T i, a' = ⟨T, 105, []⟩ ∧ T.get 0 = some (.pointer (some ⟨b, 0, none⟩)) ∧ T.get 1 = some pv ∧ T.get 28 = some (.slice wa k wc) ∧ T.get 29 = some (.int .i64 (k : Int)) ∧ T.get 30 = some (.int .i64 ((i : Nat) : Int)) ∧ i ≤ k ∧ q = k - i ∧
      Mv O O s1 s' ∧ HalfAt s' O b ms (.slice ca d.chgs.length cc) d ((d.chgs.take i).foldl Chg.go d.safe) F I ∧ srcCells s'.heap 3 (.slice wa k wc) = .ok (k, (chgsC d.chgs).take (k * 3))) (k := k)
    ⟨_, 0, rfl, ?g0, ?g1, ?g28, ?g29, ?g30, Nat.zero_le _, rfl, .refl hw1, hh1, w2⟩ ?_
  case g0 => simp (disch := first | omega | assumption) only [go_sem, ]
  case g1 => simp (disch := first | omega | assumption) only [go_sem, ]
  case g28 => simp (disch := first | omega | assumption) only [go_sem, ]
  case g29 => simp (disch := first | omega | assumption) only [go_sem, ]
  case g30 => simp (disch := first | omega | assumption) only [go_sem, ]; try rfl
  rintro q a' s' ⟨T, i, rfl, g0, g1, g28, g29, g30, hi, rfl, hmv, hh, hsrc⟩
  have hbs := hh.hb
  have hwf' := hmv.wf
  have hbl' := hh.lt b hh.own
  have hml := hh.lt ms hh.om
  by_cases hik : i < k
  · cases wa with
    | none =>
      have e : (0, ([] : List Value)) = (k, (chgsC d.chgs).take (k * 3)) := Rs.ok.inj hsrc
      have e1 : k = 0 := (congrArg Prod.fst e).symm
      omega
    | some a =>
      obtain ⟨wb, wo, sp⟩ := a
      cases sp with
      | some _ => cases hsrc
      | none =>
        obtain ⟨l, hl, hcut, hlen⟩ := src_parts hsrc
        have hid : i < d.chgs.length := by omega
        have hci : cutN l (wo + i * 3) 3 = some (chgC d.chgs[i]) := by
          rw [cutN_eq, if_pos (by omega), ← chgsC_at d.chgs i hid]
          have h1 : ((l.drop wo).take (k * 3)).drop (i * 3) = ((chgsC d.chgs).take (k * 3)).drop (i * 3) := by rw [hcut]
          have h2 := congrArg (List.take 3) h1
          rw [List.drop_take, List.drop_take, List.take_take, List.take_take, Nat.min_eq_left (by omega), List.drop_drop] at h2
          rw [h2]
        generalize hcg : d.chgs[i] = c at *
        have hcut3 : cutN (chgC c) 0 3 = some (chgC c) := rfl
        have hlen3 : (chgC c).length = 3 := rfl
        (try first | refine EvO.nx ?_ | refine EvA.nx ?_); repeat' (first | refine Abs.goH (Abs.cc g0 (Abs.cc g1 (Abs.cc g28 (Abs.cc g29 (Abs.cc g30 (Abs.cc hl (Abs.cc hci (Abs.cc hbs (Abs.cc hcut3 (hlen3)))))))))) ?_ | with_reducible refine Abs.fork (fun hb => ?_) (fun hb => ?_))
        refine Abs.Ev.regionD (n := 0) (l := [.go 0, .go 1, .go 2, .go 3, .go 4, .go 5]) (by kernel_rfl) ?_
        (try first | refine EvO.nx ?_ | refine EvA.nx ?_); repeat' (first | refine Abs.goH (Abs.cc g0 (Abs.cc g1 (Abs.cc g28 (Abs.cc g29 (Abs.cc g30 (Abs.cc hbs (hcut3))))))) ?_ | with_reducible refine Abs.fork (fun hb => ?_) (fun hb => ?_))
        have k1 : Keep s' ⟨(s'.heap.set s'.next (.cells [.string ⟨⟨[]⟩⟩, .pointer none, .string ⟨⟨[]⟩⟩] 103 0 false (0, 0))).set s'.next (.cells (chgC c) 103 0 false (0, 0)), s'.next + 1⟩ := Keep.set2 ((Keep.refl hwf').new _) (Nat.le_refl _) (Nat.lt_succ_self _) hwf'
        refine do_ev hdo k1.wf (hh.map.mono fun x hx => k1.old _ _ hx) fun s2 v2 n2 m2 f2 => ⟨_, _, rfl, ?_⟩
        have hall : ∀ x y, x ≠ ms → s'.heap.get x = some y → s2.heap.get x = some y := fun x y hx hy => f2 x y hx (k1.old x y hy)
        have n2' : s'.next + 1 ≤ s2.next := n2
        (try first | refine EvO.nx ?_ | refine EvA.nx ?_); repeat' (first | refine Abs.goH (Abs.cc g0 (Abs.cc g1 (Abs.cc g28 (Abs.cc g29 (g30))))) ?_ | with_reducible refine Abs.fork (fun hb => ?_) (fun hb => ?_))
        refine ⟨k - (i + 1), by omega, _, i + 1, rfl, ?_, ?_, ?_, ?_, ?_, by omega, rfl, hmv.trans hw1 ⟨v2, by omega, fun x y hx hy => hall x y (by rintro rfl; exact hx hh.om) hy, fun x hx => .inl hx⟩, ?_, ?_⟩
        · simp (disch := first | omega | assumption) only [go_sem, g0]
        · simp (disch := first | omega | assumption) only [go_sem, g1]
        · simp (disch := first | omega | assumption) only [go_sem, g28]
        · simp (disch := first | omega | assumption) only [go_sem, g29]
        · simp (disch := first | omega | assumption) only [go_sem, Int.natCast_add, Int.natCast_one]
        · rw [show d.chgs.take (i + 1) = d.chgs.take i ++ [c] by rw [← hcg]; exact (List.take_append_getElem hid).symm, List.foldl_append]
          refine hh.go m2 (fun x y _ hx hy => hall x y hx hy) (by omega) fun e he => ?_
          rcases go_mem he with he | ⟨f, hf, rfl⟩
          · exact hh.inN e he
          · exact hh.inC c (by rw [← hcg]; exact List.getElem_mem hid) f hf
        · refine src_mono (s := s') (fun x y hx hy => hall x y ?_ hy) hsrc
          obtain ⟨l', hl'⟩ := hh.vec.kind (hh.room x (w3 x hx)).1 hh.few
          obtain ⟨es, ck, hmm, _⟩ := hh.map
          rintro rfl
          rw [hmm] at hl'
          cases hl'
  · obtain rfl : i = k := by omega
    (try first | refine EvO.nx ?_ | refine EvA.nx ?_); repeat' (first | refine Abs.goH (Abs.cc g0 (Abs.cc g1 (Abs.cc g28 (Abs.cc g29 (Abs.cc g30 (hbs)))))) ?_ | with_reducible refine Abs.fork (fun hb => ?_) (fun hb => ?_))
    refine mclone_ev hm.mclone hm.mcloneX hwf' hh.map fun s2 k2 n2 m2 => ⟨_, _, rfl, ?_⟩
    have hb2 := k2.old _ _ hbs
    (try first | refine EvO.nx ?_ | refine EvA.nx ?_); repeat' (first | refine Abs.goH (Abs.cc g0 (Abs.cc g1 (hb2))) ?_ | with_reducible refine Abs.fork (fun hb => ?_) (fun hb => ?_))
    unfold DD.crash DD.crashF at h
    rw [hkept] at hnd hsz hlen h
    generalize hl' : (d.chgs.take i).foldl Chg.go d.safe = lk at *
    obtain ⟨s3, hs3⟩ : ∃ s3 : St, s3 = ⟨(s2.heap.set b (.cells [.int .i64 d.quota, .map (some ms), .map (some s'.next), .slice ca d.chgs.length cc, .int .i64 d.appends, .int .i64 d.syncs] 96 0 false (0, 0))).set b (.cells [.int .i64 d.quota, .map (some ms), .map (some s'.next), .slice none 0 0, .int .i64 d.appends, .int .i64 d.syncs] 96 0 false (0, 0)), s2.next⟩ := ⟨_, rfl⟩
    rw [← hs3]
    have hb3 : s3.heap.get b = some (.cells [.int .i64 d.quota, .map (some ms), .map (some s'.next), .slice none 0 0, .int .i64 d.appends, .int .i64 d.syncs] 96 0 false (0, 0)) := by rw [hs3]; exact get_same _ _ _
    have ho3 : ∀ x y, x ≠ b → s2.heap.get x = some y → s3.heap.get x = some y := fun x y hx hy => by rw [hs3]; exact (get_other _ _ _ _ hx).trans ((get_other _ _ _ _ hx).trans hy)
    have hw3 : s3.wf := by
      rw [hs3]
      have w1 := wf_put k2.wf hb2 (.cells [.int .i64 d.quota, .map (some ms), .map (some s'.next), .slice ca d.chgs.length cc, .int .i64 d.appends, .int .i64 d.syncs] 96 0 false (0, 0))
      exact wf_put w1 (get_same _ _ _) _
    have hn3 : s3.next = s'.next + 1 := by rw [hs3]; exact n2
    clear hs3
    have hd3 : DkAt s3 (fun c => O c ∨ c = s'.next) b { d with names := lk, safe := lk, chgs := [] } F I :=
      hh.done hb3 (fun x y _ hx hy => ho3 x y hx (k2.old x y hy)) (m2.mono fun x hx => ho3 _ _ (by omega) hx) (fun ho => absurd (hh.lt _ ho) (Nat.lt_irrefl _)) (by omega) (by omega)
    (try first | refine EvO.nx ?_ | refine EvA.nx ?_); repeat' (first | refine Abs.goH (Abs.cc g0 (g1)) ?_ | with_reducible refine Abs.fork (fun hb => ?_) (fun hb => ?_))
    refine list_ev hn hm hd3 hw3 ?_ ?_ ?_ fun v4 s4 k4 q4 hv4 => ⟨_, _, rfl, ?_⟩
    · exact hnd
    · exact hsz
    · exact hlen
    obtain ⟨ks, hks⟩ : ∃ ks, ks = Abs.sortB (akeys lk) := ⟨_, rfl⟩
    have hkl : ks.length = lk.length := by rw [hks, (sortB_perm _).length_eq]; unfold akeys; rw [List.length_map]
    have hki : ∀ x ∈ ks, x ∈ akeys lk := fun x hx => (sortB_perm _).mem_iff.1 (hks ▸ hx)
    rw [← hks] at h
    unfold DD.keys at q4
    simp only at q4
    rw [← hks, ← hkl] at q4
    obtain ⟨va, vc, rfl⟩ := q4.src.2
    (try first | refine EvO.nx ?_ | refine EvA.nx ?_); repeat' (first | refine Abs.goH (Abs.cc g0 (g1)) ?_ | with_reducible refine Abs.fork (fun hb => ?_) (fun hb => ?_))
    have hO2 : ∀ c, inBlk (.slice va ks.length vc) c → ¬ (O c ∨ c = s'.next) := fun c hc ho => by
      have := hv4 c hc
      have := hd3.lt c ho
      omega
    have hmv4 : Mv O (fun c => O c ∨ c = s'.next) s s4 := ⟨k4.wf, by have := k4.next; have := hmv.next; omega, fun c x hc hx => k4.old c x (ho3 c x (by rintro rfl; exact hc hd.own) (k2.old c x (hmv.old c x hc (ho1 c x (by rintro rfl; exact hc hd.own) hx)))), fun c hc => hc.imp id fun e => by have := hmv.next; omega⟩
    have hv4' : IntsB s4 pv picks := hv.mono fun x y hx hy => hmv4.old x y (hpO x hx) hy
    refine Ev.loop (fun q a' s5 => ∃ T j Fj, a' = ⟨T, 105, []⟩ ∧ T.get 0 = some (.pointer (some ⟨b, 0, none⟩)) ∧ T.get 1 = some pv ∧ T.get 53 = some (.slice va ks.length vc) ∧ T.get 54 = some (.int .i64 (ks.length : Int)) ∧ T.get 55 = some (.int .i64 ((j : Nat) : Int)) ∧ j ≤ ks.length ∧ q = ks.length - j ∧
        Mv O (fun c => O c ∨ c = s'.next) s s5 ∧ DkAt s5 (fun c => O c ∨ c = s'.next) b { d with names := lk, safe := lk, chgs := [] } Fj I ∧ cutFs picks lk (ks.drop j) j Fj = cutFs picks lk ks 0 F ∧ (∀ f, I f → (Fj f).safe ≤ (Fj f).bytes.length ∧ (Fj f).bytes.length ≤ 35184372088832) ∧
        srcCells s5.heap 1 (.slice va ks.length vc) = .ok (ks.length, valsOf ks) ∧ IntsB s5 pv picks) (k := ks.length)
      ⟨_, 0, F, rfl, ?p0, ?p1, ?p53, ?p54, ?p55, Nat.zero_le _, rfl, hmv4, hd3.keep k4, rfl, hsafe, q4.src.1, hv4'⟩ ?_
    case p0 => simp (disch := first | omega | assumption) only [go_sem, g0]
    case p1 => simp (disch := first | omega | assumption) only [go_sem, g1]
    case p53 => simp (disch := first | omega | assumption) only [go_sem, ]
    case p54 => simp (disch := first | omega | assumption) only [go_sem, ]
    case p55 => simp (disch := first | omega | assumption) only [go_sem, ]; try rfl
    rintro q a' s5 ⟨T, j, Fj, rfl, p0, p1, p53, p54, p55, hj, rfl, hmvj, hdj, hcut, hsf, hvn, hvp⟩
    have hw5 := hmvj.wf
    by_cases hjk : j < ks.length
    · cases va with
      | none =>
        have e : (0, ([] : List Value)) = (ks.length, valsOf ks) := Rs.ok.inj hvn
        have e1 : ks.length = 0 := (congrArg Prod.fst e).symm
        omega
      | some a =>
        obtain ⟨vb, vo, sp⟩ := a
        cases sp with
        | some _ => cases hvn
        | none =>
          obtain ⟨l5, hl5, hcut5, hlen5⟩ := src_parts hvn
          have hlj : l5[vo + j]? = some (.string ⟨⟨ks[j]⟩⟩) := by
            have h1 : (valsOf ks)[j]? = some (mkStr ks[j]) := by
              unfold valsOf
              rw [List.getElem?_map, List.getElem?_eq_getElem hjk]
              rfl
            rw [← hcut5, List.getElem?_take, List.getElem?_drop] at h1
            split at h1
            · exact h1
            · cases h1
          have hmem := hki _ (List.getElem_mem hjk)
          obtain ⟨mn5, ms5, cv5, f1, f2, f3, f4, f5, f6, f7, f8⟩ := hdj.ex
          obtain ⟨es, ck, hmm, hfind⟩ := find_name f5 ks[j]
          rcases hfind with ⟨jj, f, q1, q2⟩ | ⟨q1, q2⟩
          · have hI := hdj.inN _ (aget_mem q1)
            obtain ⟨bv, g1', g2'⟩ := hdj.files
            obtain ⟨r1, r2, r3, r4⟩ := g1' f hI
            obtain ⟨va2, vc2, hbv⟩ := r3.src.2
            rw [hbv] at r1 r3 r4
            obtain ⟨hsf1, hsf2⟩ := hsf f hI
            have hdrop : ks.drop j = ks[j] :: ks.drop (j + 1) := List.drop_eq_getElem_cons hjk
            obtain ⟨R, hR⟩ : ∃ R, R = cutFs picks lk ks 0 F := ⟨_, rfl⟩
            rw [hdrop, ← hR] at hcut
            unfold cutFs at hcut
            rw [q1] at hcut
            simp only at hcut
            (try first | refine EvO.nx ?_ | refine EvA.nx ?_); repeat' (first | refine Abs.goH (Abs.cc p0 (Abs.cc p1 (Abs.cc p53 (Abs.cc p54 (Abs.cc p55 (Abs.cc hl5 (Abs.cc hlj (Abs.cc f1 (Abs.cc hmm (q2)))))))))) ?_ | with_reducible refine Abs.fork (fun hb => ?_) (fun hb => ?_))
            refine Abs.Ev.regionD (n := 0) (l := [.go 0, .go 1, .go 2, .go 3, .go 4, .go 5, .go 6, .go 7, .go 8, .go 9, .go 10, .go 11, .go 12, .go 13, .go 14, .go 15, .go 16, .go 17, .go 18, .again 3, .go 19, .go 20, .go 21, .go 22]) (by kernel_rfl) ?_
            (try first | refine EvO.nx ?_ | refine EvA.nx ?_); repeat' (first | refine Abs.goH (Abs.cc p0 (Abs.cc p1 (Abs.cc p53 (Abs.cc p54 (Abs.cc p55 (r1)))))) ?_ | with_reducible refine Abs.fork (fun hb => ?_) (fun hb => ?_))
            rw [show (((j : Nat) : Int) + 1) = ((j + 1 : Nat) : Int) by omega, show (((Fj f).bytes.length : Nat) : Int) - (((Fj f).safe : Nat) : Int) + 1 = (((Fj f).bytes.length - (Fj f).safe + 1 : Nat) : Int) by omega]
            have hwl := hdj.few
            refine pick_ev hp hvp (i := j + 1) (n := (Fj f).bytes.length - (Fj f).safe + 1) (by omega) (by omega) (by omega) ⟨_, _, rfl, ?_⟩
            have hpk5 := pickN_lt picks (j + 1) ((Fj f).bytes.length - (Fj f).safe + 1) (by omega)
            have hcf : cutF picks j (Fj f) = ⟨(Fj f).bytes.take ((Fj f).safe + pickN picks (j + 1) ((Fj f).bytes.length - (Fj f).safe + 1)), (Fj f).safe + pickN picks (j + 1) ((Fj f).bytes.length - (Fj f).safe + 1)⟩ := rfl
            generalize hpn : pickN picks (j + 1) ((Fj f).bytes.length - (Fj f).safe + 1) = pn at *
            (try first | refine EvO.nx ?_ | refine EvA.nx ?_); repeat' (first | refine Abs.goH (Abs.cc p0 (Abs.cc p1 (Abs.cc p53 (Abs.cc p54 (Abs.cc p55 (r1)))))) ?_ | with_reducible refine Abs.fork (fun hb => ?_) (fun hb => ?_))
            have hnef : ∀ x, inBlk (.slice va2 (Fj f).bytes.length vc2) x → x ≠ f := fun x hx => by
              obtain ⟨_, l, hl⟩ := r4 x hx
              rintro rfl
              rw [r1] at hl
              simp at hl
            have r3' : Vec ⟨s5.heap.set f (.cells [.slice va2 (Fj f).bytes.length vc2, .int .i64 (((Fj f).safe : Int) + (pn : Int))] 101 0 false (0, 0)), s5.next⟩ 5 1 (.slice va2 (Fj f).bytes.length vc2) (Fj f).bytes.length (byteCells (Fj f).bytes) :=
              r3.mono fun x y hx hy => (get_other _ _ _ _ (hnef x hx)).trans hy
            obtain ⟨w, w1, w2, w3⟩ := r3'.pre3 (P := Tryz.prog) (n' := (Fj f).safe + pn) Tryz.underlying28 Ty.sz5 rfl (by unfold open_; omega) (by omega)
            have hs6 := get_same s5.heap f (AObj.cells [.slice va2 (Fj f).bytes.length vc2, .int .i64 (((Fj f).safe : Int) + (pn : Int))] 101 0 false (0, 0))
            simp (disch := first | omega | assumption) only [go_sem, Int.natCast_add] at w1
            obtain ⟨wa, wc, rfl⟩ := w2.src.2
            refine Abs.Ev.regionD (n := 0) (l := [.go 0, .go 1, .go 2, .go 3, .go 4, .go 5, .go 6, .go 7, .go 8, .go 9, .go 10, .go 11, .go 12, .go 13, .go 14, .go 15, .go 16]) (by kernel_rfl) ?_
            (try first | refine EvO.nx ?_ | refine EvA.nx ?_); repeat' (first | refine Abs.goH (Abs.cc p0 (Abs.cc p1 (Abs.cc p53 (Abs.cc p54 (Abs.cc p55 (Abs.cc hs6 (w1))))))) ?_ | with_reducible refine Abs.fork (fun hb => ?_) (fun hb => ?_))
            obtain ⟨s7, hs7⟩ : ∃ s7 : St, s7 = ⟨(s5.heap.set f (.cells [.slice va2 (Fj f).bytes.length vc2, .int .i64 (((Fj f).safe : Int) + (pn : Int))] 101 0 false (0, 0))).set f (.cells [.slice wa ((Fj f).safe + pn) wc, .int .i64 (((Fj f).safe : Int) + (pn : Int))] 101 0 false (0, 0)), s5.next⟩ := ⟨_, rfl⟩
            rw [← hs7]
            have hf7 : s7.heap.get f = some (.cells [.slice wa ((Fj f).safe + pn) wc, .int .i64 (((Fj f).safe + pn : Nat) : Int)] 101 0 false (0, 0)) := by rw [hs7, Int.natCast_add]; exact get_same _ _ _
            have ho7 : ∀ x y, x ≠ f → s5.heap.get x = some y → s7.heap.get x = some y := fun x y hx hy => by rw [hs7]; exact (get_other _ _ _ _ hx).trans ((get_other _ _ _ _ hx).trans hy)
            have hn7 : s7.next = s5.next := by rw [hs7]
            have hw7 : s7.wf := by
              rw [hs7]
              exact wf_put (wf_put hw5 r1 _) (get_same _ _ _) _
            have hw2 : Vec s7 5 1 (.slice wa ((Fj f).safe + pn) wc) ((Fj f).safe + pn) (byteCells ((Fj f).bytes.take ((Fj f).safe + pn))) := by
              have e : byteCells ((Fj f).bytes.take ((Fj f).safe + pn)) = (byteCells (Fj f).bytes).take (((Fj f).safe + pn) * 1) := by rw [byteCells_eq, byteCells_eq, List.map_take, Nat.mul_one]
              rw [e]
              refine w2.mono fun x y hx hy => ?_
              rw [hs7]
              exact (get_other _ _ _ _ (hnef x (w3 x hx))).trans hy
            clear hs7
            have htl : ((Fj f).bytes.take ((Fj f).safe + pn)).length = (Fj f).safe + pn := by rw [List.length_take]; omega
            have hd7 : DkAt s7 (fun c => O c ∨ c = s'.next) b { d with names := lk, safe := lk, chgs := [] } (Fj.put f (cutF picks j (Fj f))) I := by
              rw [hcf]
              refine hdj.refile hI r1 (fun x y _ hx _ hy => ho7 x y hx hy) hf7 (by rw [htl]; exact hw2) (fun c hc => ?_) (fun c hc => .inl (w3 c hc)) (fun c hc => hc) (fun c hc => by rw [hn7]; exact hdj.lt c hc)
              obtain ⟨t1, l, hl⟩ := r4 c (w3 c hc)
              exact ⟨t1, l, ho7 c _ (hnef c (w3 c hc)) hl⟩
            have hfO : ∀ x, (O x ∨ x = s'.next) → True := fun _ _ => trivial
            have hmv7 : Mv O (fun c => O c ∨ c = s'.next) s s7 := ⟨hw7, by rw [hn7]; exact hmvj.next, fun x y hx hy => ho7 x y (by
              rintro rfl
              rcases r2 with r2 | rfl
              · exact hx r2
              · have := hwf _ _ hy
                have := hmv.next
                omega) (hmvj.old x y hx hy), hmvj.new⟩
            refine ⟨ks.length - (j + 1), by omega, _, j + 1, Fj.put f (cutF picks j (Fj f)), rfl, ?_, ?_, ?_, ?_, ?_, by omega, rfl, hmv7, hd7, hcut.trans hR, fun g hg => ?_, ?_, ?_⟩
            · simp (disch := first | omega | assumption) only [go_sem, p0]
            · simp (disch := first | omega | assumption) only [go_sem, p1]
            · simp (disch := first | omega | assumption) only [go_sem, p53]
            · simp (disch := first | omega | assumption) only [go_sem, p54]
            · simp (disch := first | omega | assumption) only [go_sem, Int.natCast_add, Int.natCast_one]
            · by_cases hgf : g = f
              · subst hgf
                rw [hcf]
                simp only [Fs.put, if_true, htl]
                omega
              · simp only [Fs.put, if_neg hgf]
                exact hsf g hg
            · refine src_mono (s := s5) (fun x y hx hy => ho7 x y ?_ hy) hvn
              rintro rfl
              obtain ⟨o', m', c', e'⟩ := hx
              cases e'
              rcases r2 with r2 | r2
              · exact hO2 _ ⟨_, _, _, rfl⟩ (.inl r2)
              · exact hO2 _ ⟨_, _, _, rfl⟩ (.inr r2)
            · refine hvp.mono fun x y hx hy => ho7 x y ?_ hy
              rintro rfl
              rcases r2 with r2 | r2
              · exact hpO _ hx r2
              · have h1 := hv.lt hwf hx
                have h2 := hmv.next
                omega
          · exact absurd hmem (aget_none.1 q1)
    · obtain rfl : j = ks.length := by omega
      (try first | refine EvO.nx ?_ | refine EvA.nx ?_); repeat' (first | refine Abs.goH (Abs.cc p0 (Abs.cc p1 (Abs.cc p53 (Abs.cc p54 (p55))))) ?_ | with_reducible refine Abs.fork (fun hb => ?_) (fun hb => ?_))
      have hz : cutFs picks lk (ks.drop ks.length) ks.length Fj = Fj := by rw [List.drop_length]; rfl
      rw [hz] at hcut
      rw [← hcut] at h
      exact h _ _ hmvj hdj
end
end Go.Proofs.YtbakhdgiimjnkaaGreatDoor
