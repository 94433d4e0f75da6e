/-
  The evaluator and what is proved of it (several texts in one).
-/
import Derived.Test.YtbakhdgiimjnkaaGreatDoorDkA
import Derived.Test.YtbakhdgiimjnkaaGreatDoorEvSet
set_option linter.unusedVariables false
set_option linter.unusedSimpArgs false
/-
  simdisk: what New, SyncDir, List, Quota do, at the evaluator.
-/
namespace Go.Proofs.YtbakhdgiimjnkaaGreatDoor
open Abs
set_option maxHeartbeats 16000000
set_option maxRecDepth 20000
set_option linter.unusedSimpArgs false
attribute [local irreducible] Abs.Ev Abs.EvF Abs.EvO Abs.EvA Abs.Seq Abs.Blk Abs.Body Abs.Scp Abs.EvG Abs.EvAg Abs.Nx
attribute [local go_sem] Tryz.underlying2 Ty.sz2 Ty.by2 Ty.ag2 Ty.ze2 Tryz.underlying3 Ty.sz3 Ty.by3 Ty.ag3 Ty.ze3 Tryz.underlying4 Ty.sz4 Ty.by4 Ty.ag4 Ty.ze4 Tryz.underlying5 Ty.sz5 Ty.by5 Ty.ag5 Ty.ze5 Tryz.underlying9 Ty.sz9 Ty.by9 Ty.ag9 Ty.ze9 Tryz.underlying24 Ty.sz24 Ty.by24 Ty.ag24 Ty.ze24 Tryz.underlying28 Ty.sz28 Ty.by28 Ty.ag28 Ty.ze28 Tryz.underlying29 Ty.sz29 Ty.by29 Ty.ag29 Ty.ze29 Tryz.underlying34 Ty.sz34 Ty.by34 Ty.ag34 Ty.ze34 Tryz.underlying45 Ty.sz45 Ty.by45 Ty.ag45 Ty.ze45 Tryz.underlying46 Ty.sz46 Ty.by46 Ty.ag46 Ty.ze46 Tryz.underlying55 Ty.sz55 Ty.by55 Ty.ag55 Ty.ze55 Tryz.underlying88 Ty.sz88 Ty.by88 Ty.ag88 Ty.ze88 Tryz.underlying89 Ty.sz89 Ty.by89 Ty.ag89 Ty.ze89 Tryz.underlying94 Ty.sz94 Ty.by94 Ty.ag94 Ty.ze94 Tryz.underlying96 Ty.sz96 Ty.by96 Ty.ag96 Ty.ze96 Tryz.underlying98 Ty.sz98 Ty.by98 Ty.ag98 Ty.ze98 Tryz.underlying101 Ty.sz101 Ty.by101 Ty.ag101 Ty.ze101 Tryz.underlying103 Ty.sz103 Ty.by103 Ty.ag103 Ty.ze103
section
variable {Sm : Summ} {Q : Ans → Prop}
theorem map_nil {h : Tr AObj} {c : Bool} (r : Nat) : aBin Tryz.prog h .eql 88 c (.map (some r)) (.map none) = .ok (.bool false) := by cases c <;> kernel_rfl
attribute [local go_sem] map_nil Abs.pAssert
theorem mclone_ev (hs : Sm 67 = none) (hx : Sm 98 = none) {s : St} (hwf : s.wf) {m : Nat} {l : Nms} (hm : MapAt s m mkStr ptrV l) (h : ∀ s', Keep s s' → s'.next = s.next + 1 → MapAt s' s.next mkStr ptrV l → Q (.val (.map (some s.next)) s')) :
    Ev Tryz.prog Sm (.inv (.fn (.func 67) #[]) [.map (some m)] s) Q := by
  refine Ev.func hs Tryz.func67 rfl (m := 9) rfl ?_
  simp only [Array.toList_empty, List.append_nil, ofList_cons, ofList_nil]
  obtain ⟨es, ck, h1, h2, h3⟩ := hm
  have hc : Abs.ext Tryz.prog s (Tryz.f98).resultTypes .clone [.iface 88 (.map (some m))] (fun v s => Rs.ok (Ans.val v s)) = .ok (.val (.iface 88 (.map (some s.next))) ⟨s.heap.set s.next (.map es ck), s.next + 1⟩) := by
    show (match s.heap.get m with
      | some (.map es clock) => s.new (.map es clock) fun n st => Rs.ok (Ans.val (.iface 88 (.map (some n))) st)
      | _ => .no 95 "") = _
    rw [h1]
    show s.new (.map es ck) _ = _
    rw [St.new_eq]
  (try first | refine EvO.nx ?_ | refine EvA.nx ?_); repeat' (first | refine Abs.go ?_ | with_reducible refine Abs.fork (fun hb => ?_) (fun hb => ?_))
  refine ev_ext hx Tryz.func98 rfl (by kernel_rfl) rfl hc ⟨_, _, rfl, ?_⟩
  (try first | refine EvO.nx ?_ | refine EvA.nx ?_); repeat' (first | refine Abs.go ?_ | with_reducible refine Abs.fork (fun hb => ?_) (fun hb => ?_))
  exact h _ ((Keep.refl hwf).new _) rfl ⟨es, ck, get_same _ _ _, h2, h3⟩
/-- the directory is safe -/
theorem DkAt.resync {s s' : St} {O : Nat → Prop} {b : Nat} {d : DD} {F : Fs} {I : Nat → Prop} (h : DkAt s O b d F I) {m2 mn : Nat} {ms cv q a y : Value} (e : s.heap.get b = some (.cells [q, .map (some mn), ms, cv, a, y] 96 0 false (0, 0)))
    (hb : s'.heap.get b = some (.cells [.int .i64 d.quota, .map (some mn), .map (some m2), .slice none 0 0, .int .i64 d.appends, .int .i64 d.syncs] 96 0 false (0, 0))) (hk : ∀ x y, O x → x ≠ b → s.heap.get x = some y → s'.heap.get x = some y) (hm2 : MapAt s' m2 mkStr ptrV d.names) (hO : ¬ O m2) (hlt : m2 < s'.next) (hn : s.next ≤ s'.next) :
    DkAt s' (fun c => O c ∨ c = m2) b { d with safe := d.names, chgs := [] } F I := by
  obtain ⟨mn', ms', cv', h1, h2, h3, h4, h5, h6, h7, h8⟩ := h.ex
  obtain ⟨bv, g1, g2⟩ := h.files
  rw [e] at h1
  cases h1
  have nb : ∀ x l t sz o fz, s.heap.get x = some (.cells l t sz o fz) → t ≠ 96 → x ≠ b := fun x l t sz o fz hx he => by
    rintro rfl
    rw [e] at hx
    cases hx
    exact he rfl
  refine ⟨⟨mn, m2, .slice none 0 0, hb, ?_, .inl h3, .inr rfl, h5.mono fun x hx => ?_, hm2, .nil, fun c ⟨o, n, k, e⟩ => by cases e⟩, ⟨bv, fun f hf => ?_, g2⟩, .inl h.own, fun c hc => ?_, h.inN, h.inN, (fun c hc => by cases hc), (show 0 < open_ by decide)⟩
  · rintro rfl
    exact hO h3
  · obtain ⟨es, k, e1, _⟩ := h5
    exact hk mn x h3 (by rintro rfl; rw [e] at e1; cases e1) hx
  · obtain ⟨q1, q2, q3, q4⟩ := g1 f hf
    refine ⟨hk _ _ q2 (nb f _ _ _ _ _ q1 (by decide)) q1, .inl q2, q3.mono fun x z hx hz => ?_, fun c hc => ?_⟩
    · obtain ⟨ho, l, hl⟩ := q4 x hx
      exact hk x z ho (nb x _ _ _ _ _ hl (by decide)) hz
    · obtain ⟨ho, l, hl⟩ := q4 c hc
      exact ⟨.inl ho, l, hk c _ ho (nb c _ _ _ _ _ hl (by decide)) hl⟩
  · rcases hc with hc | rfl
    · exact Nat.lt_of_lt_of_le (h.lt c hc) hn
    · exact hlt
/-- no summary stands for these -/
structure NoMore (Sm : Summ) : Prop where
  mclone : Sm 67 = none
  mcloneX : Sm 98 = none
  keys : Sm 64 = none
  sorted : Sm 63 = some (sumSorted 97 9)
attribute [local go_sem] List.set_cons_zero List.set_cons_succ
set_option maxRecDepth 20000 in
theorem syncDir_ev (hn : NoFile Sm) (hm : NoMore Sm) {s : St} {O : Nat → Prop} {b : Nat} {d : DD} {F : Fs} {I : Nat → Prop} (hd : DkAt s O b d F I) (hwf : s.wf)
    (h : ∀ s' O' y, Mv O O' s s' → DkAt s' O' b { d with safe := d.names, chgs := [], syncs := y } F I → Q (.val (.int .i64 0) s')) :
    Ev Tryz.prog Sm (.inv (.fn (.func 62) #[]) [.pointer (some ⟨b, 0, none⟩)] s) Q := by
  refine Ev.func hn.syncDir Tryz.func62 rfl (m := 18) rfl ?_
  simp only [Array.toList_empty, List.append_nil, ofList_cons, ofList_nil]
  obtain ⟨mn, ms, cv, e1, e2, e3, e4, e5, e6, e7, e8⟩ := hd.ex
  (try first | refine EvO.nx ?_ | refine EvA.nx ?_); repeat' (first | refine Abs.goH e1 ?_ | with_reducible refine Abs.fork (fun hb => ?_) (fun hb => ?_))
  refine mclone_ev hm.mclone hm.mcloneX hwf e5 fun s1 k1 n1 m1 => ⟨_, _, rfl, ?_⟩
  have e1' := k1.old _ _ e1
  have hbl := hd.lt b hd.own
  (try first | refine EvO.nx ?_ | refine EvA.nx ?_); repeat' (first | refine Abs.goH e1' ?_ | with_reducible refine Abs.fork (fun hb => ?_) (fun hb => ?_))
  obtain ⟨s2, hs2⟩ : ∃ s2 : St, s2 = ⟨(s1.heap.set b (.cells [.int .i64 d.quota, .map (some mn), .map (some s.next), cv, .int .i64 d.appends, .int .i64 d.syncs] 96 0 false (0, 0))).set b (.cells [.int .i64 d.quota, .map (some mn), .map (some s.next), .slice none 0 0, .int .i64 d.appends, .int .i64 d.syncs] 96 0 false (0, 0)), s1.next⟩ := ⟨_, rfl⟩
  rw [← hs2]
  have hb2 : s2.heap.get b = some (.cells [.int .i64 d.quota, .map (some mn), .map (some s.next), .slice none 0 0, .int .i64 d.appends, .int .i64 d.syncs] 96 0 false (0, 0)) := by rw [hs2]; exact get_same _ _ _
  have ho2 : ∀ x y, x ≠ b → s1.heap.get x = some y → s2.heap.get x = some y := fun x y hx hy => by rw [hs2]; exact (get_other _ _ _ _ hx).trans ((get_other _ _ _ _ hx).trans hy)
  have hw2 : s2.wf := by
    rw [hs2]
    have w1 := wf_put k1.wf e1' (.cells [.int .i64 d.quota, .map (some mn), .map (some s.next), cv, .int .i64 d.appends, .int .i64 d.syncs] 96 0 false (0, 0))
    exact wf_put w1 (get_same _ _ _) _
  have hn2 : s2.next = s.next + 1 := by rw [hs2]; exact n1
  clear hs2
  have hd2 : DkAt s2 (fun c => O c ∨ c = s.next) b { d with safe := d.names, chgs := [] } F I :=
    hd.resync e1 hb2 (fun x y _ hx hy => ho2 x y hx (k1.old x y hy)) (m1.mono fun x hx => ho2 _ _ (by omega) hx) (fun ho => absurd (hd.lt _ ho) (Nat.lt_irrefl _)) (by omega) (by omega)
  refine add_ev hn hb2 rfl ⟨_, _, rfl, ?_⟩
  (try first | refine EvO.nx ?_ | refine EvA.nx ?_); repeat' (first | refine Abs.go ?_ | with_reducible refine Abs.fork (fun hb => ?_) (fun hb => ?_))
  refine h _ (fun c => O c ∨ c = s.next) _ ⟨wf_put hw2 hb2 _, by show s.next ≤ s2.next; omega, fun c x hc hx => ?_, fun c hc => hc.imp id fun e => by show s.next ≤ c; omega⟩ (hd2.reset hb2 d.quota d.appends (IntKind.i64.wrap (d.syncs + 1)))
  exact (get_other _ _ _ _ (by rintro rfl; exact hc hd.own)).trans (ho2 c x (by rintro rfl; exact hc hd.own) (k1.old c x hx))
/-- names, sorted, as they lie -/
theorem list_ev (hn : NoFile Sm) (hm : NoMore Sm) {s : St} {O : Nat → Prop} {b : Nat} {d : DD} {F : Fs} {I : Nat → Prop} (hd : DkAt s O b d F I) (hwf : s.wf) (hnd : (akeys d.names).Nodup) (hsz : d.names.length ≤ 1048576) (hlen : ∀ k ∈ akeys d.names, k.length ≤ 1048576)
    (h : ∀ v s', Keep s s' → Vec s' 9 1 v d.names.length (valsOf d.keys) → (∀ c, inBlk v c → s.next ≤ c) → Q (.val v s')) :
    Ev Tryz.prog Sm (.inv (.fn (.func 26) #[]) [.pointer (some ⟨b, 0, none⟩)] s) Q := by
  refine Ev.func hn.list Tryz.func26 rfl (m := 9) rfl ?_
  simp only [Array.toList_empty, List.append_nil, ofList_cons, ofList_nil]
  obtain ⟨mn, ms, cv, e1, e2, e3, e4, ⟨es, ck, m1, m2, m3⟩, e6, e7, e8⟩ := hd.ex
  (try first | refine EvO.nx ?_ | refine EvA.nx ?_); repeat' (first | refine Abs.goH e1 ?_ | with_reducible refine Abs.fork (fun hb => ?_) (fun hb => ?_))
  refine Ev.func hm.keys Tryz.func64 rfl (m := 4) rfl ?_
  simp only [Array.toList_empty, List.append_nil, ofList_cons, ofList_nil]
  (try first | refine EvO.nx ?_ | refine EvA.nx ?_); repeat' (first | refine Abs.go ?_ | with_reducible refine Abs.fork (fun hb => ?_) (fun hb => ?_))
  refine ⟨_, _, rfl, ?_⟩
  (try first | refine EvO.nx ?_ | refine EvA.nx ?_); repeat' (first | refine Abs.go ?_ | with_reducible refine Abs.fork (fun hb => ?_) (fun hb => ?_))
  have hk1 := (Keep.refl hwf).new (.cells [.map (some mn)] 88 0 false (0, 0))
  have hlk : (akeys d.names).length = d.names.length := by unfold akeys; rw [List.length_map]
  have hls : (Abs.sortB (akeys d.names)).length = d.names.length := by rw [(sortB_perm _).length_eq, hlk]
  have e0 : ∀ s1 : St, s1.heap.get s.next = some (.cells [.map (some mn)] 88 0 false (0, 0)) → s1.heap.get mn = some (.map es ck) → sumSorted 97 9 [.func (.func 97) #[] #[.pointer (some ⟨s.next, 0, none⟩)]] s1 = sumSorted2 9 s1 (Abs.sortB (akeys d.names)) := fun s1 h1 h2 => by
    show ifb (Nat.beq 97 97) (sumSorted0 9 s1 (s1.heap.get s.next)) (.no 140 "") = _
    rw [h1]
    show sumSorted1 9 s1 (s1.heap.get mn) = _
    rw [h2]
    show ifb (Nat.ble (lenN es) 1048576) (ifb (bornB ck es []) ((mapR (fun x => strOfV x.key) es).bind fun ks => ifb (nodupB ks) (ifb (shortB ks) (sumSorted2 9 s1 (Abs.sortB ks)) (.no 140 "")) (.no 140 "")) (.no 140 "")) (.no 140 "") = _
    rw [lenN_eq, m2.length, show Nat.ble d.names.length 1048576 = true by simpa using hsz, bornB_of m3 (fun _ _ => by simp), keysR_of m2]
    show ifb (nodupB (akeys d.names)) (ifb (shortB (akeys d.names)) (sumSorted2 9 s1 (Abs.sortB (akeys d.names))) (.no 140 "")) (.no 140 "") = _
    rw [nodupB_of hnd, shortB_of hlen]
    rfl
  have e1s := e0 ⟨s.heap.set s.next (.cells [.map (some mn)] 88 0 false (0, 0)), s.next + 1⟩ (get_same _ _ _) (hk1.old _ _ m1)
  unfold DD.keys at h
  generalize Abs.sortB (akeys d.names) = ks at *
  cases ks with
  | nil =>
    refine Ev.summ hm.sorted e1s ⟨_, _, rfl, ?_⟩
    (try first | refine EvO.nx ?_ | refine EvA.nx ?_); repeat' (first | refine Abs.go ?_ | with_reducible refine Abs.fork (fun hb => ?_) (fun hb => ?_))
    rw [← hls] at h
    exact h _ _ hk1 .nil (by rintro c ⟨o, n, k, e⟩; cases e)
  | cons k ks =>
    have e2s : sumSorted2 9 ⟨s.heap.set s.next (.cells [.map (some mn)] 88 0 false (0, 0)), s.next + 1⟩ (k :: ks) = .ok (.slice (some ⟨s.next + 1, 0, none⟩) d.names.length open_, ⟨(s.heap.set s.next (.cells [.map (some mn)] 88 0 false (0, 0))).set (s.next + 1) (.cells (valsOf (k :: ks)) 9 1 true (0, 0)), s.next + 1 + 1⟩) := by
      unfold sumSorted2
      simp only
      rw [St.new_eq, ← hls, lenN_eq]
    refine Ev.summ hm.sorted (e1s.trans e2s) ⟨_, _, rfl, ?_⟩
    (try first | refine EvO.nx ?_ | refine EvA.nx ?_); repeat' (first | refine Abs.go ?_ | with_reducible refine Abs.fork (fun hb => ?_) (fun hb => ?_))
    refine h _ _ (hk1.new _) ?_ ?_
    · refine .room (get_same _ _ _) rfl ?_ ?_
      · show 0 + d.names.length * 1 ≤ (valsOf (k :: ks)).length ∧ 0 < (valsOf (k :: ks)).length
        unfold valsOf
        rw [List.length_map, hls]
        rw [List.length_cons] at hls
        omega
      · rw [List.drop_zero, List.take_of_length_le]
        unfold valsOf
        rw [List.length_map, hls]
        omega
    · rintro c ⟨o, n, q, e⟩
      cases e
      omega
set_option maxRecDepth 20000 in
theorem dnew_ev (hs : Sm 19 = none) {s : St} (hwf : s.wf) {n : Int} (h0 : 0 ≤ n) (h : ∀ s' O b, Keep s s' → (∀ c, O c → s.next ≤ c) → DkAt s' O b (DD.empty n) (fun _ => ⟨[], 0⟩) (fun _ => False) → Q (.val (.tuple #[.pointer (some ⟨b, 0, none⟩), .int .i64 0]) s')) :
    Ev Tryz.prog Sm (.inv (.fn (.func 19) #[]) [.int .i64 n] s) Q := by
  refine Ev.func hs Tryz.func19 rfl (m := 11) rfl ?_
  simp only [Array.toList_empty, List.append_nil, ofList_cons, ofList_nil]
  (try first | refine EvO.nx ?_ | refine EvA.nx ?_); repeat' (first | refine Abs.go ?_ | with_reducible refine Abs.fork (fun hb => ?_) (fun hb => ?_))
  have hk := (((Keep.refl hwf).new (.map [] 0)).new (.map [] 0)).new (.cells [.int .i64 n, .map (some s.next), .map (some (s.next + 1)), .slice none 0 0, .int .i64 0, .int .i64 0] 96 0 false (0, 0))
  refine h _ (fun c => c = s.next ∨ c = s.next + 1 ∨ c = s.next + 1 + 1) (s.next + 1 + 1) hk (fun c hc => by omega) ⟨⟨s.next, s.next + 1, .slice none 0 0, get_same _ _ _, by omega, .inl rfl, .inr (.inl rfl), ⟨[], 0, ?_, .nil, ⟨fun e he => (by cases he), List.nodup_nil⟩⟩, ⟨[], 0, ?_, .nil, ⟨fun e he => (by cases he), List.nodup_nil⟩⟩, .nil, fun c ⟨o, n, k, e⟩ => by cases e⟩, ⟨fun _ => .slice none 0 0, fun f hf => hf.elim, fun f g hf => hf.elim⟩, .inr (.inr rfl), fun c hc => by show c < s.next + 1 + 1 + 1; omega, (fun e he => by cases he), (fun e he => by cases he), (fun c hc => by cases hc), (show 0 < open_ by decide)⟩
  · show (((s.heap.set s.next (.map [] 0)).set (s.next + 1) (.map [] 0)).set (s.next + 1 + 1) _).get s.next = _
    rw [get_other _ _ _ _ (by omega), get_other _ _ _ _ (by omega), get_same]
  · show (((s.heap.set s.next (.map [] 0)).set (s.next + 1) (.map [] 0)).set (s.next + 1 + 1) _).get (s.next + 1) = _
    rw [get_other _ _ _ _ (by omega), get_same]
end
end Go.Proofs.YtbakhdgiimjnkaaGreatDoor

/-
  simdisk: what pick and Stat do, at the evaluator.
-/
namespace Go.Proofs.YtbakhdgiimjnkaaGreatDoor
open Abs
set_option maxHeartbeats 16000000
set_option maxRecDepth 20000
set_option linter.unusedSimpArgs false
attribute [local irreducible] Abs.Ev Abs.EvF Abs.EvO Abs.EvA Abs.Seq Abs.Blk Abs.Body Abs.Scp Abs.EvG Abs.EvAg Abs.Nx
attribute [local go_sem] Tryz.underlying2 Ty.sz2 Ty.by2 Ty.ag2 Ty.ze2 Tryz.underlying3 Ty.sz3 Ty.by3 Ty.ag3 Ty.ze3 Tryz.underlying4 Ty.sz4 Ty.by4 Ty.ag4 Ty.ze4 Tryz.underlying5 Ty.sz5 Ty.by5 Ty.ag5 Ty.ze5 Tryz.underlying9 Ty.sz9 Ty.by9 Ty.ag9 Ty.ze9 Tryz.underlying24 Ty.sz24 Ty.by24 Ty.ag24 Ty.ze24 Tryz.underlying28 Ty.sz28 Ty.by28 Ty.ag28 Ty.ze28 Tryz.underlying29 Ty.sz29 Ty.by29 Ty.ag29 Ty.ze29 Tryz.underlying34 Ty.sz34 Ty.by34 Ty.ag34 Ty.ze34 Tryz.underlying45 Ty.sz45 Ty.by45 Ty.ag45 Ty.ze45 Tryz.underlying46 Ty.sz46 Ty.by46 Ty.ag46 Ty.ze46 Tryz.underlying55 Ty.sz55 Ty.by55 Ty.ag55 Ty.ze55 Tryz.underlying88 Ty.sz88 Ty.by88 Ty.ag88 Ty.ze88 Tryz.underlying89 Ty.sz89 Ty.by89 Ty.ag89 Ty.ze89 Tryz.underlying94 Ty.sz94 Ty.by94 Ty.ag94 Ty.ze94 Tryz.underlying96 Ty.sz96 Ty.by96 Ty.ag96 Ty.ze96 Tryz.underlying98 Ty.sz98 Ty.by98 Ty.ag98 Ty.ze98 Tryz.underlying101 Ty.sz101 Ty.by101 Ty.ag101 Ty.ze101 Tryz.underlying103 Ty.sz103 Ty.by103 Ty.ag103 Ty.ze103
section
variable {Sm : Summ} {Q : Ans → Prop}
def intsC (l : List Int) : List Value := l.map fun n => .int .i64 n
/-- numbers, as they lie -/
def IntsB (s : St) (v : Value) (l : List Int) : Prop := (∃ a c, v = .slice a l.length c) ∧ srcCells s.heap 1 v = .ok (l.length, intsC l)
theorem IntsB.mono {s s' : St} {v : Value} {l : List Int} (hk : ∀ b x, inBlk v b → s.heap.get b = some x → s'.heap.get b = some x) (h : IntsB s v l) : IntsB s' v l := ⟨h.1, src_mono hk h.2⟩
theorem IntsB.nil (s : St) : IntsB s (.slice none 0 0) [] := ⟨⟨_, _, rfl⟩, rfl⟩
theorem load_ev (hn : NoFile Sm) {s : St} {b o : Nat} {l : List Value} {e : TypeId} {sz : Nat} {opn : Bool} {x : Int} (hb : s.heap.get b = some (.cells l e sz opn (0, 0))) (hl : l[o]? = some (.int .i64 x)) (h : Q (.val (.int .i64 x) s)) :
    Ev Tryz.prog Sm (.inv (.fn (.func 72) #[]) [.pointer (some ⟨b, o, none⟩)] s) Q := by
  refine Ev.func hn.load Tryz.func72 rfl (m := 7) rfl ?_
  simp only [Array.toList_empty, List.append_nil, ofList_cons, ofList_nil]
  have hx : Abs.ext Tryz.prog s (Tryz.f101).resultTypes (.load .i64) [.pointer (some ⟨b, o, none⟩)] (fun v s => Rs.ok (Ans.val v s)) = .ok (.val (.int .i64 x) s) := by
    show (match s.heap.get b with
      | some (.cells l _ _ _ _) => (Rs.of 94 l[o]?).bind fun
        | .int kd' n => ifb (decide (IntKind.i64 = kd')) (Rs.ok (Ans.val (.int kd' n) s)) (.no 94 "")
        | _ => .no 94 ""
      | _ => .no 94 "") = _
    rw [hb]
    show (Rs.of 94 l[o]?).bind _ = _
    rw [hl]
    rfl
  (try first | refine EvO.nx ?_ | refine EvA.nx ?_); repeat' (first | refine Abs.go ?_ | with_reducible refine Abs.fork (fun hb => ?_) (fun hb => ?_))
  refine ev_ext hn.loadX Tryz.func101 rfl (by kernel_rfl) rfl hx ⟨_, _, rfl, ?_⟩
  (try first | refine EvO.nx ?_ | refine EvA.nx ?_); repeat' (first | refine Abs.go ?_ | with_reducible refine Abs.fork (fun hb => ?_) (fun hb => ?_))
  exact h
theorem stat_build (x y z w : Int) : aBuild Tryz.prog 55 [(0, .int .i64 x), (1, .int .i64 y), (2, .int .i64 z), (3, .int .i64 w)] = .ok (.agg #[.int .i64 x, .int .i64 y, .int .i64 z, .int .i64 w]) := by kernel_rfl
attribute [local go_sem] stat_build cut4
theorem dstat_ev (hn : NoFile Sm) (hs : Sm 30 = none) (ht : Sm 71 = some sumTotal) {s : St} {O : Nat → Prop} {b : Nat} {d : DD} {F : Fs} {I : Nat → Prop} (hd : DkAt s O b d F I) (hwf : s.wf) (hnd : (akeys d.names).Nodup) (htt : d.total F ≤ 1073741824) (hnl : d.names.length ≤ 1073741824)
    (h : ∀ s', Keep s s' → Q (.val (.agg #[.int .i64 (d.names.length : Int), .int .i64 ((d.total F : Nat) : Int), .int .i64 d.appends, .int .i64 d.syncs]) s')) :
    Ev Tryz.prog Sm (.inv (.fn (.func 30) #[]) [.pointer (some ⟨b, 0, none⟩)] s) Q := by
  refine Ev.func hs Tryz.func30 rfl (m := 19) rfl ?_
  simp only [Array.toList_empty, List.append_nil, ofList_cons, ofList_nil]
  obtain ⟨mn, ms, cv, e1, e2, e3, e4, ⟨es, ck, m1, m2, m3⟩, e6, e7, e8⟩ := hd.ex
  (try first | refine EvO.nx ?_ | refine EvA.nx ?_); repeat' (first | refine Abs.go ?_ | with_reducible refine Abs.fork (fun hb => ?_) (fun hb => ?_))
  refine Abs.Ev.regionD (n := 0) (l := [.go 0, .go 1, .go 2, .go 3, .go 4, .go 5, .go 7, .go 8, .go 9, .go 11, .go 12, .go 13, .go 6, .go 10, .go 14, .go 15, .go 16]) (by kernel_rfl) ?_
  have hbl := hd.lt b hd.own
  have hml := hd.lt mn e3
  have hk1 := (Keep.refl hwf).new (.cells [.int .i64 0, .int .i64 0, .int .i64 0, .int .i64 0] 55 0 false (0, 0))
  have hd1 := hd.keep hk1
  have e1' := hk1.old _ _ e1
  have hlen := m2.length
  (try first | refine EvO.nx ?_ | refine EvA.nx ?_); repeat' (first | refine Abs.goH (Abs.cc e1 (Abs.cc m1 (hlen))) ?_ | with_reducible refine Abs.fork (fun hb => ?_) (fun hb => ?_))
  refine Ev.summ ht (total_of hd1 hnd htt) ⟨_, _, rfl, ?_⟩
  (try first | refine EvO.nx ?_ | refine EvA.nx ?_); repeat' (first | refine Abs.go ?_ | with_reducible refine Abs.fork (fun hb => ?_) (fun hb => ?_))
  refine load_ev hn e1' rfl ⟨_, _, rfl, ?_⟩
  (try first | refine EvO.nx ?_ | refine EvA.nx ?_); repeat' (first | refine Abs.go ?_ | with_reducible refine Abs.fork (fun hb => ?_) (fun hb => ?_))
  refine load_ev hn e1' rfl ⟨_, _, rfl, ?_⟩
  (try first | refine EvO.nx ?_ | refine EvA.nx ?_); repeat' (first | refine Abs.go ?_ | with_reducible refine Abs.fork (fun hb => ?_) (fun hb => ?_))
  exact h _ (Keep.set2 (Keep.grow hk1 (Nat.le_refl _)) (Nat.le_refl _) (Nat.lt_succ_self _) hwf)
end
end Go.Proofs.YtbakhdgiimjnkaaGreatDoor

/-
  simdisk: what Crash does, at the evaluator.
-/
namespace Go.Proofs.YtbakhdgiimjnkaaGreatDoor
open Abs
set_option maxHeartbeats 16000000
set_option maxRecDepth 20000
set_option linter.unusedSimpArgs false
attribute [local irreducible] Abs.Ev Abs.EvF Abs.EvO Abs.EvA Abs.Seq Abs.Blk Abs.Body Abs.Scp Abs.EvG Abs.EvAg Abs.Nx
attribute [local go_sem] Tryz.underlying2 Ty.sz2 Ty.by2 Ty.ag2 Ty.ze2 Tryz.underlying3 Ty.sz3 Ty.by3 Ty.ag3 Ty.ze3 Tryz.underlying4 Ty.sz4 Ty.by4 Ty.ag4 Ty.ze4 Tryz.underlying5 Ty.sz5 Ty.by5 Ty.ag5 Ty.ze5 Tryz.underlying9 Ty.sz9 Ty.by9 Ty.ag9 Ty.ze9 Tryz.underlying24 Ty.sz24 Ty.by24 Ty.ag24 Ty.ze24 Tryz.underlying28 Ty.sz28 Ty.by28 Ty.ag28 Ty.ze28 Tryz.underlying29 Ty.sz29 Ty.by29 Ty.ag29 Ty.ze29 Tryz.underlying34 Ty.sz34 Ty.by34 Ty.ag34 Ty.ze34 Tryz.underlying45 Ty.sz45 Ty.by45 Ty.ag45 Ty.ze45 Tryz.underlying46 Ty.sz46 Ty.by46 Ty.ag46 Ty.ze46 Tryz.underlying55 Ty.sz55 Ty.by55 Ty.ag55 Ty.ze55 Tryz.underlying88 Ty.sz88 Ty.by88 Ty.ag88 Ty.ze88 Tryz.underlying89 Ty.sz89 Ty.by89 Ty.ag89 Ty.ze89 Tryz.underlying94 Ty.sz94 Ty.by94 Ty.ag94 Ty.ze94 Tryz.underlying96 Ty.sz96 Ty.by96 Ty.ag96 Ty.ze96 Tryz.underlying98 Ty.sz98 Ty.by98 Ty.ag98 Ty.ze98 Tryz.underlying101 Ty.sz101 Ty.by101 Ty.ag101 Ty.ze101 Tryz.underlying103 Ty.sz103 Ty.by103 Ty.ag103 Ty.ze103
section
variable {Sm : Summ} {Q : Ans → Prop}
/-- a disk whose names and safe names are one map -/
structure HalfAt (s : St) (O : Nat → Prop) (b m : Nat) (cv : Value) (d : DD) (l : Nms) (F : Fs) (I : Nat → Prop) : Prop where
  hb : s.heap.get b = some (.cells [.int .i64 d.quota, .map (some m), .map (some m), cv, .int .i64 d.appends, .int .i64 d.syncs] 96 0 false (0, 0))
  om : O m
  map : MapAt s m mkStr ptrV l
  vec : Vec s 103 3 cv d.chgs.length (chgsC d.chgs)
  room : ∀ c, inBlk cv c → inRoom cv c ∧ O c
  files : ∃ bv : Nat → Value, (∀ f, I f → s.heap.get f = some (.cells [bv f, .int .i64 ((F f).safe : Int)] 101 0 false (0, 0)) ∧ O f ∧ Vec s 5 1 (bv f) (F f).bytes.length (byteCells (F f).bytes) ∧ ∀ c, inBlk (bv f) c → O c ∧ ∃ l, s.heap.get c = some (.cells l 5 1 true (0, 0))) ∧ ∀ f g, I f → I g → ∀ c, inBlk (bv f) c → inBlk (bv g) c → f = g
  own : O b
  lt : ∀ c, O c → c < s.next
  inN : ∀ e ∈ l, I e.2
  inC : ∀ c ∈ d.chgs, ∀ f, c.file = some f → I f
  few : d.chgs.length < open_
/-- the map turns, nothing else of the disk -/
theorem HalfAt.go {s s' : St} {O : Nat → Prop} {b m : Nat} {cv : Value} {d : DD} {l l' : Nms} {F : Fs} {I : Nat → Prop} (h : HalfAt s O b m cv d l F I) (hm : MapAt s' m mkStr ptrV l') (hk : ∀ c x, O c → c ≠ m → s.heap.get c = some x → s'.heap.get c = some x) (hn : s.next ≤ s'.next) (hI : ∀ e ∈ l', I e.2) : HalfAt s' O b m cv d l' F I := by
  obtain ⟨es, ck, hm0, _⟩ := h.map
  have nm : ∀ x l e sz o fz, s.heap.get x = some (.cells l e sz o fz) → x ≠ m := fun x l e sz o fz hx => by
    rintro rfl
    rw [hm0] at hx
    cases hx
  obtain ⟨bv, g1, g2⟩ := h.files
  refine ⟨hk _ _ h.own (nm _ _ _ _ _ _ h.hb) h.hb, h.om, hm, h.vec.mono fun x y hx hy => ?_, h.room, ⟨bv, fun f hf => ?_, g2⟩, h.own, fun c hc => Nat.lt_of_lt_of_le (h.lt c hc) hn, hI, h.inC, h.few⟩
  · obtain ⟨l, hl⟩ := h.vec.kind (h.room x hx).1 h.few
    exact hk x y (h.room x hx).2 (nm _ _ _ _ _ _ hl) hy
  · obtain ⟨q1, q2, q3, q4⟩ := g1 f hf
    refine ⟨hk _ _ q2 (nm _ _ _ _ _ _ q1) q1, q2, q3.mono fun x y hx hy => ?_, fun c hc => ?_⟩
    · obtain ⟨ho, l, hl⟩ := q4 x hx
      exact hk x y ho (nm _ _ _ _ _ _ hl) hy
    · obtain ⟨ho, l, hl⟩ := q4 c hc
      exact ⟨ho, l, hk c _ ho (nm _ _ _ _ _ _ hl) hl⟩
/-- a new safe map: a disk again -/
theorem HalfAt.done {s s' : St} {O : Nat → Prop} {b m : Nat} {cv : Value} {d : DD} {l : Nms} {F : Fs} {I : Nat → Prop} (h : HalfAt s O b m cv d l F I) {m2 : Nat}
    (hb : s'.heap.get b = some (.cells [.int .i64 d.quota, .map (some m), .map (some m2), .slice none 0 0, .int .i64 d.appends, .int .i64 d.syncs] 96 0 false (0, 0))) (hk : ∀ x y, O x → x ≠ b → s.heap.get x = some y → s'.heap.get x = some y) (hm2 : MapAt s' m2 mkStr ptrV l) (hO : ¬ O m2) (hlt : m2 < s'.next) (hn : s.next ≤ s'.next) :
    DkAt s' (fun c => O c ∨ c = m2) b { d with names := l, safe := l, chgs := [] } F I := by
  obtain ⟨bv, g1, g2⟩ := h.files
  have nb : ∀ x l t sz o fz, s.heap.get x = some (.cells l t sz o fz) → t ≠ 96 → x ≠ b := fun x l t sz o fz hx he => by
    rintro rfl
    rw [h.hb] at hx
    cases hx
    exact he rfl
  refine ⟨⟨m, m2, .slice none 0 0, hb, ?_, .inl h.om, .inr rfl, h.map.mono fun x hx => ?_, hm2, .nil, fun c ⟨o, n, k, e⟩ => by cases e⟩, ⟨bv, fun f hf => ?_, g2⟩, .inl h.own, fun c hc => ?_, h.inN, h.inN, (fun c hc => by cases hc), (show 0 < open_ by decide)⟩
  · rintro rfl
    exact hO h.om
  · obtain ⟨es, k, e1, _⟩ := h.map
    exact hk m x h.om (by rintro rfl; rw [h.hb] at e1; cases e1) hx
  · obtain ⟨q1, q2, q3, q4⟩ := g1 f hf
    refine ⟨hk _ _ q2 (nb f _ _ _ _ _ q1 (by decide)) q1, .inl q2, q3.mono fun x z hx hz => ?_, fun c hc => ?_⟩
    · obtain ⟨ho, l, hl⟩ := q4 x hx
      exact hk x z ho (nb x _ _ _ _ _ hl (by decide)) hz
    · obtain ⟨ho, l, hl⟩ := q4 c hc
      exact ⟨.inl ho, l, hk c _ ho (nb c _ _ _ _ _ hl (by decide)) hl⟩
  · rcases hc with hc | rfl
    · exact Nat.lt_of_lt_of_le (h.lt c hc) hn
    · exact hlt
end
end Go.Proofs.YtbakhdgiimjnkaaGreatDoor

