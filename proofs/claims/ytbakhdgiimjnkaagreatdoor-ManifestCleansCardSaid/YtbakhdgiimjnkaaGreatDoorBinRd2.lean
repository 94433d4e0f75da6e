/-
  bin, reading: what bin.Read and the readers' calls do, at the evaluator.
-/
import Derived.Test.YtbakhdgiimjnkaaGreatDoorBnA
import Derived.Test.YtbakhdgiimjnkaaGreatDoorEvB
import Derived.Test.YtbakhdgiimjnkaaGreatDoorEvSet
namespace Go.Proofs.YtbakhdgiimjnkaaGreatDoor
open Abs
set_option maxHeartbeats 16000000
set_option maxRecDepth 20000
set_option linter.unusedSimpArgs false
attribute [local irreducible] Abs.Ev Abs.EvF Abs.EvO Abs.EvA Abs.Seq Abs.Blk Abs.Body Abs.Scp Abs.EvG Abs.EvAg Abs.Nx
attribute [local go_sem] Abs.eDelete
attribute [local go_sem] Tryz.underlying3 Ty.sz3 Ty.by3 Ty.ag3 Ty.ze3 Tryz.underlying4 Ty.sz4 Ty.by4 Ty.ag4 Ty.ze4 Tryz.underlying5 Ty.sz5 Ty.by5 Ty.ag5 Ty.ze5 Tryz.underlying9 Ty.sz9 Ty.by9 Ty.ag9 Ty.ze9 Tryz.underlying24 Ty.sz24 Ty.by24 Ty.ag24 Ty.ze24 Tryz.underlying28 Ty.sz28 Ty.by28 Ty.ag28 Ty.ze28 Tryz.underlying83 Ty.sz83 Ty.by83 Ty.ag83 Ty.ze83 Tryz.underlying127 Ty.sz127 Ty.by127 Ty.ag127 Ty.ze127
section
variable {Sm : Summ} {Q : Ans → Prop}
/-- one block has turned, no other -/
structure Only (b : Nat) (s s' : St) : Prop where
  wf : s'.wf
  next : s'.next = s.next
  old : ∀ c x, c ≠ b → s.heap.get c = some x → s'.heap.get c = some x
  dom : ∀ c x, s'.heap.get c = some x → ∃ y, s.heap.get c = some y
theorem Only.refl {b : Nat} {s : St} (h : s.wf) : Only b s s := ⟨h, rfl, fun _ _ _ h => h, fun _ x h => ⟨x, h⟩⟩
theorem Only.trans {b : Nat} {s s' s'' : St} (h : Only b s s') (k : Only b s' s'') : Only b s s'' := ⟨k.wf, k.next.trans h.next, fun c x h1 h2 => k.old c x h1 (h.old c x h1 h2), fun c x h1 => by obtain ⟨y, h2⟩ := k.dom c x h1; exact h.dom c y h2⟩
theorem Only.set {b : Nat} {s s' : St} (h : Only b s s') {y : AObj} (hb : s.heap.get b = some y) (hwf : s.wf) (x : AObj) : Only b s ⟨s'.heap.set b x, s'.next⟩ :=
  ⟨fun c y' e => by
    rcases Tr.get_set e with ⟨rfl, _⟩ | ⟨_, e⟩
    · show c < s'.next
      rw [h.next]
      exact hwf _ _ hb
    · exact h.wf c y' e, h.next, fun c z h1 h2 => (get_other _ _ _ _ h1).trans (h.old c z h1 h2), fun c z e => by
    rcases Tr.get_set e with ⟨rfl, _⟩ | ⟨_, e⟩
    · exact ⟨y, hb⟩
    · exact h.dom c z e⟩
theorem Keep.only {b : Nat} {s0 s s' : St} (h : Keep s0 s) (k : Only b s s') (hb : s0.next ≤ b) (hw : s0.wf) : Keep s0 s' :=
  ⟨k.wf, by rw [k.next]; exact h.next, fun c x hc => k.old c x (by have := hw c x hc; omega) (h.old c x hc)⟩
theorem RdB.only {b : Nat} {s s' : St} {v : Value} {l : List UInt8} {x : Value} {w : List Value} {e : TypeId} (hb : s.heap.get b = some (.cells (x :: w) e 0 false (0, 0))) (k : ∀ c x, c ≠ b → s.heap.get c = some x → s'.heap.get c = some x) (h : RdB s v l) : RdB s' v l := by
  cases h with
  | nil => exact .nil
  | zero hz => exact .zero (k _ _ (by intro e; rw [e, hb] at hz; simp at hz) hz)
  | part hw ho => exact .part (k _ _ (by intro e; rw [e, hb] at hw; simp at hw) hw) ho
theorem RdAt.only {b c : Nat} {s s' : St} {r : Rd} (h : RdAt s b r) (hbc : b ≠ c) {x : Value} {w : List Value} {e : TypeId} (hc : s.heap.get c = some (.cells (x :: w) e 0 false (0, 0))) (k : ∀ d x, d ≠ c → s.heap.get d = some x → s'.heap.get d = some x) : RdAt s' b r := by
  obtain ⟨⟨v, h1, h2⟩, h3⟩ := h
  exact ⟨⟨v, k _ _ hbc h1, h2.only hc k⟩, h3⟩
/-- a part of what is left -/
theorem RdB.later {s : St} {b o n : Nat} {w : List UInt8} (hb : s.heap.get b = some (.cells (byteCells w) 5 1 true (0, 0))) (hn : n ≤ (w.drop o).length) (ho : o ≤ w.length) : RdB s (.slice (some ⟨b, o + n, none⟩) ((w.drop o).length - n) open_) ((w.drop o).drop n) := by
  have e : (w.drop o).drop n = w.drop (o + n) := by rw [List.drop_drop]
  have e2 : (w.drop o).length - n = (w.drop (o + n)).length := by simp; omega
  rw [e, e2]
  refine .part hb ?_
  rw [List.length_drop] at hn
  omega
theorem cut_part {w : List UInt8} {o n : Nat} (h : n ≤ (w.drop o).length) : (cutN (byteCells w) o n).bind cellBytes = some ((w.drop o).take n) := by
  rw [cutN_eq, byteCells_len, if_pos (by rw [List.length_drop] at h; exact h)]
  show cellBytes (((byteCells w).drop o).take n) = _
  rw [byteCells_eq, ← List.map_drop, ← List.map_take, ← byteCells_eq]
  exact cellBytes_byteCells _
theorem read_ev (hs : Sm 49 = none) (hc : Sm 80 = none) {s : St} (hwf : s.wf) {v : Value} {l : List UInt8} (hv : BytesB s v l) (hl : l.length ≤ 35184372088832)
    (h : ∀ s' b, Keep s s' → s.next ≤ b → RdAt s' b ⟨l, false⟩ → Q (.val (.pointer (some ⟨b, 0, none⟩)) s')) :
    Ev Tryz.prog Sm (.inv (.fn (.func 49) #[]) [v] s) Q := by
  refine Ev.func hs Tryz.func49 rfl (m := 7) rfl ?_
  simp only [Array.toList_empty, List.append_nil, ofList_cons, ofList_nil]
  (try first | refine EvO.nx ?_ | refine EvA.nx ?_); repeat' (first | refine Abs.go ?_ | with_reducible refine Abs.fork (fun hb => ?_) (fun hb => ?_))
  refine clone_ev hc hwf hv (by omega) fun v1 s1 k1 b1 => ⟨_, _, rfl, ?_⟩
  have hr := b1.rd
  have hp : ∃ a n c, v1 = .slice a n c := by
    obtain ⟨_, a, c, e⟩ := Buf.src b1.buf
    exact ⟨_, _, _, e⟩
  obtain ⟨a, n, c, rfl⟩ := hp
  (try first | refine EvO.nx ?_ | refine EvA.nx ?_); repeat' (first | refine Abs.go ?_ | with_reducible refine Abs.fork (fun hb => ?_) (fun hb => ?_))
  exact h _ s1.next (k1.new _) k1.next ⟨⟨_, get_same _ _ _, hr.mono (Keep.new (Keep.refl k1.wf) _).old⟩, hl⟩
theorem numGo_fits {l : List UInt8} {v n : Nat} (h : numGo l 0 0 = some (v, n)) : v < 18446744073709551616 ∧ 0 < n ∧ n ≤ l.length := by
  obtain ⟨h1, h2, h3, _⟩ := numGo_lt h (by decide)
  omega
attribute [local go_sem] numV Nat.div_one Nat.sub_zero
set_option maxRecDepth 20000 in
theorem rdInt_ev (hs : Sm 50 = none) (hn : Sm 83 = none) {s : St} (hwf : s.wf) {b : Nat} {r : Rd} (hr : RdAt s b r) {most : Nat} (hm : most ≤ 4611686018427387904)
    (h : ∀ s', Only b s s' → RdAt s' b (rdInt most r).2 → Q (.val (.int .i64 ((rdInt most r).1 : Int)) s')) :
    Ev Tryz.prog Sm (.inv (.fn (.func 50) #[]) [.pointer (some ⟨b, 0, none⟩), .int .i64 (most : Int)] s) Q := by
  refine Ev.func hs Tryz.func50 rfl (m := 50) rfl ?_
  simp only [Array.toList_empty, List.append_nil, ofList_cons, ofList_nil]
  have hr0 := hr
  obtain ⟨⟨v, hB, hv⟩, hsm⟩ := hr
  (try first | refine EvO.nx ?_ | refine EvA.nx ?_); repeat' (first | refine Abs.go ?_ | with_reducible refine Abs.fork (fun hb => ?_) (fun hb => ?_))
  refine num_ev hn hr0 ⟨_, _, rfl, ?_⟩
  obtain ⟨l, bad⟩ := r
  simp only at hB hv hsm
  unfold rdInt at h
  have d0 : decide ((most : Int) < 0) = false := decide_eq_false (by omega)
  have fail : (∀ s', Only b s s' → RdAt s' b ⟨l, true⟩ → Q (.val (.int .i64 ((0 : Nat) : Int)) s')) → Q (.val (.int .i64 0) ⟨s.heap.set b (.cells [v, .bool true] 127 0 false (0, 0)), s.next⟩) := fun h =>
    h _ ((Only.refl hwf).set hB hwf _) ⟨⟨v, get_same _ _ _, hv.only hB fun c x hc hx => (get_other _ _ _ _ hc).trans hx⟩, hsm⟩
  cases hg : numGo l 0 0 with
  | none =>
    rw [hg] at h
    replace fail := fail h
    clear h
    cases bad with
    | true =>
      (try first | refine EvO.nx ?_ | refine EvA.nx ?_); repeat' (first | refine Abs.goH (Abs.cc hB (d0)) ?_ | with_reducible refine Abs.fork (fun hb => ?_) (fun hb => ?_))
      exact fail
    | false =>
      (try first | refine EvO.nx ?_ | refine EvA.nx ?_); repeat' (first | refine Abs.goH (Abs.cc hB (d0)) ?_ | with_reducible refine Abs.fork (fun hb => ?_) (fun hb => ?_))
      exact fail
  | some q =>
    obtain ⟨x, n⟩ := q
    obtain ⟨h1, h2, h3⟩ := numGo_fits hg
    rw [hg] at h
    have e1 : IntKind.u64.wrap (most : Int) = (most : Int) := wrap_u64 _ (by omega) (by omega)
    by_cases hx : most < x
    · have d1 : decide ((most : Int) < (x : Int)) = true := decide_eq_true (by omega)
      have h : ∀ s', Only b s s' → RdAt s' b ⟨l, true⟩ → Q (.val (.int .i64 ((0 : Nat) : Int)) s') := by simpa [hx] using h
      replace fail := fail h
      clear h
      cases bad with
      | true =>
        (try first | refine EvO.nx ?_ | refine EvA.nx ?_); repeat' (first | refine Abs.goH (Abs.cc hB (Abs.cc d0 (Abs.cc e1 (d1)))) ?_ | with_reducible refine Abs.fork (fun hb => ?_) (fun hb => ?_))
        exact fail
      | false =>
        (try first | refine EvO.nx ?_ | refine EvA.nx ?_); repeat' (first | refine Abs.goH (Abs.cc hB (Abs.cc d0 (Abs.cc e1 (d1)))) ?_ | with_reducible refine Abs.fork (fun hb => ?_) (fun hb => ?_))
        exact fail
    · have d1 : decide ((most : Int) < (x : Int)) = false := decide_eq_false (by omega)
      cases bad with
      | true =>
        have h : ∀ s', Only b s s' → RdAt s' b ⟨l, true⟩ → Q (.val (.int .i64 ((0 : Nat) : Int)) s') := by simpa using h
        replace fail := fail h
        clear h
        (try first | refine EvO.nx ?_ | refine EvA.nx ?_); repeat' (first | refine Abs.goH (Abs.cc hB (Abs.cc d0 (Abs.cc e1 (d1)))) ?_ | with_reducible refine Abs.fork (fun hb => ?_) (fun hb => ?_))
        exact fail
      | false =>
        clear fail
        have h : ∀ s', Only b s s' → RdAt s' b ⟨l.drop n, false⟩ → Q (.val (.int .i64 (x : Int)) s') := by simpa [hx] using h
        have e2 : IntKind.i64.wrap (x : Int) = (x : Int) := wrap_i64 _ (by omega) (by omega)
        cases hv with
        | nil => simp at h3; omega
        | zero hz => simp at h3; omega
        | @part bb o w hbb ho =>
          have hcl := byteCells_len w
          have hne : bb ≠ b := by intro e; rw [e, hB] at hbb; simp at hbb
          have hdl := List.length_drop (l := w) (i := o)
          (try first | refine EvO.nx ?_ | refine EvA.nx ?_); repeat' (first | refine Abs.goH (Abs.cc hB (Abs.cc d0 (Abs.cc e1 (Abs.cc d1 (Abs.cc e2 (Abs.cc hbb (hcl))))))) ?_ | with_reducible refine Abs.fork (fun hb => ?_) (fun hb => ?_))
          refine h _ (((Only.refl hwf).set hB hwf _).set hB hwf _) ⟨⟨_, get_same _ _ _, ?_⟩, by rw [List.length_drop]; omega⟩
          exact .later ((get_other _ _ _ _ hne).trans ((get_other _ _ _ _ hne).trans hbb)) h3 ho
set_option maxRecDepth 20000 in
theorem rdUint_ev (hs : Sm 52 = none) (hn : Sm 83 = none) {s : St} (hwf : s.wf) {b : Nat} {r : Rd} (hr : RdAt s b r)
    (h : ∀ s', Only b s s' → RdAt s' b (rdUint r).2 → Q (.val (.int .u64 ((rdUint r).1 : Int)) s')) :
    Ev Tryz.prog Sm (.inv (.fn (.func 52) #[]) [.pointer (some ⟨b, 0, none⟩)] s) Q := by
  refine Ev.func hs Tryz.func52 rfl (m := 37) rfl ?_
  simp only [Array.toList_empty, List.append_nil, ofList_cons, ofList_nil]
  have hr0 := hr
  obtain ⟨⟨v, hB, hv⟩, hsm⟩ := hr
  (try first | refine EvO.nx ?_ | refine EvA.nx ?_); repeat' (first | refine Abs.go ?_ | with_reducible refine Abs.fork (fun hb => ?_) (fun hb => ?_))
  refine num_ev hn hr0 ⟨_, _, rfl, ?_⟩
  obtain ⟨l, bad⟩ := r
  simp only at hB hv hsm
  unfold rdUint at h
  have fail : (∀ s', Only b s s' → RdAt s' b ⟨l, true⟩ → Q (.val (.int .u64 ((0 : Nat) : Int)) s')) → Q (.val (.int .u64 0) ⟨s.heap.set b (.cells [v, .bool true] 127 0 false (0, 0)), s.next⟩) := fun h =>
    h _ ((Only.refl hwf).set hB hwf _) ⟨⟨v, get_same _ _ _, hv.only hB fun c x hc hx => (get_other _ _ _ _ hc).trans hx⟩, hsm⟩
  cases hg : numGo l 0 0 with
  | none =>
    rw [hg] at h
    replace fail := fail h
    clear h
    cases bad with
    | true =>
      (try first | refine EvO.nx ?_ | refine EvA.nx ?_); repeat' (first | refine Abs.goH hB ?_ | with_reducible refine Abs.fork (fun hb => ?_) (fun hb => ?_))
      exact fail
    | false =>
      (try first | refine EvO.nx ?_ | refine EvA.nx ?_); repeat' (first | refine Abs.goH hB ?_ | with_reducible refine Abs.fork (fun hb => ?_) (fun hb => ?_))
      exact fail
  | some q =>
    obtain ⟨x, n⟩ := q
    obtain ⟨h1, h2, h3⟩ := numGo_fits hg
    rw [hg] at h
    cases bad with
    | true =>
      have h : ∀ s', Only b s s' → RdAt s' b ⟨l, true⟩ → Q (.val (.int .u64 ((0 : Nat) : Int)) s') := by simpa using h
      replace fail := fail h
      clear h
      (try first | refine EvO.nx ?_ | refine EvA.nx ?_); repeat' (first | refine Abs.goH hB ?_ | with_reducible refine Abs.fork (fun hb => ?_) (fun hb => ?_))
      exact fail
    | false =>
      clear fail
      have h : ∀ s', Only b s s' → RdAt s' b ⟨l.drop n, false⟩ → Q (.val (.int .u64 (x : Int)) s') := by simpa using h
      cases hv with
      | nil => simp at h3; omega
      | zero hz => simp at h3; omega
      | @part bb o w hbb ho =>
        have hcl := byteCells_len w
        have hne : bb ≠ b := by intro e; rw [e, hB] at hbb; simp at hbb
        have hdl := List.length_drop (l := w) (i := o)
        (try first | refine EvO.nx ?_ | refine EvA.nx ?_); repeat' (first | refine Abs.goH (Abs.cc hB (Abs.cc hbb (hcl))) ?_ | with_reducible refine Abs.fork (fun hb => ?_) (fun hb => ?_))
        refine h _ (((Only.refl hwf).set hB hwf _).set hB hwf _) ⟨⟨_, get_same _ _ _, ?_⟩, by rw [List.length_drop]; omega⟩
        exact .later ((get_other _ _ _ _ hne).trans ((get_other _ _ _ _ hne).trans hbb)) h3 ho
theorem rdText_ev (hs : Sm 51 = none) (hi : Sm 50 = none) (hn : Sm 83 = none) {s : St} (hwf : s.wf) {b : Nat} {r : Rd} (hr : RdAt s b r) {most : Nat} (hm : most ≤ 4611686018427387904)
    (h : ∀ s', Only b s s' → RdAt s' b (rdText most r).2 → Q (.val (.string ⟨⟨(rdText most r).1⟩⟩) s')) :
    Ev Tryz.prog Sm (.inv (.fn (.func 51) #[]) [.pointer (some ⟨b, 0, none⟩), .int .i64 (most : Int)] s) Q := by
  refine Ev.func hs Tryz.func51 rfl (m := 47) rfl ?_
  simp only [Array.toList_empty, List.append_nil, ofList_cons, ofList_nil]
  (try first | refine EvO.nx ?_ | refine EvA.nx ?_); repeat' (first | refine Abs.go ?_ | with_reducible refine Abs.fork (fun hb => ?_) (fun hb => ?_))
  refine rdInt_ev hi hn hwf hr hm fun s1 k1 r1 => ⟨_, _, rfl, ?_⟩
  have hle := (rdInt_le most r).1
  unfold rdText at h
  generalize rdInt most r = q at *
  obtain ⟨n, l, bad⟩ := q
  simp only at h hle
  obtain ⟨⟨v, hB, hv⟩, hsm⟩ := r1
  simp only at hB hv hsm
  obtain ⟨w1, w2, w3, w4⟩ := k1
  obtain ⟨va, vn, vc, rfl⟩ : ∃ a n c, v = .slice a n c := by cases hv <;> exact ⟨_, _, _, rfl⟩
  have hvn : vn = l.length := by cases hv <;> rfl
  have fail : (∀ s', Only b s s' → RdAt s' b ⟨l, true⟩ → Q (.val (.string ⟨⟨[]⟩⟩) s')) → Q (.val (.string ⟨⟨[]⟩⟩) ⟨s1.heap.set b (.cells [.slice va vn vc, .bool true] 127 0 false (0, 0)), s1.next⟩) := fun h =>
    h _ (Only.trans ⟨w1, w2, w3, w4⟩ ((Only.refl w1).set hB w1 _)) ⟨⟨_, get_same _ _ _, hv.only hB fun c x hc hx => (get_other _ _ _ _ hc).trans hx⟩, hsm⟩
  cases bad with
  | true =>
    have h : ∀ s', Only b s s' → RdAt s' b ⟨l, true⟩ → Q (.val (.string ⟨⟨[]⟩⟩) s') := by simpa using h
    replace fail := fail h
    clear h
    (try first | refine EvO.nx ?_ | refine EvA.nx ?_); repeat' (first | refine Abs.goH hB ?_ | with_reducible refine Abs.fork (fun hb => ?_) (fun hb => ?_))
    exact fail
  | false =>
    by_cases hx : l.length < n
    · have d1 : decide ((vn : Int) < (n : Int)) = true := decide_eq_true (by omega)
      have h : ∀ s', Only b s s' → RdAt s' b ⟨l, true⟩ → Q (.val (.string ⟨⟨[]⟩⟩) s') := by simpa [hx] using h
      replace fail := fail h
      clear h
      (try first | refine EvO.nx ?_ | refine EvA.nx ?_); repeat' (first | refine Abs.goH (Abs.cc hB (d1)) ?_ | with_reducible refine Abs.fork (fun hb => ?_) (fun hb => ?_))
      exact fail
    · have d1 : decide ((vn : Int) < (n : Int)) = false := decide_eq_false (by omega)
      have h : ∀ s', Only b s s' → RdAt s' b ⟨l.drop n, false⟩ → Q (.val (.string ⟨⟨l.take n⟩⟩) s') := by simpa [hx] using h
      clear fail
      cases hv with
      | nil =>
        have h3 : n = 0 := by simp at hx; omega
        subst h3
        (try first | refine EvO.nx ?_ | refine EvA.nx ?_); repeat' (first | refine Abs.goH (Abs.cc hB (d1)) ?_ | with_reducible refine Abs.fork (fun hb => ?_) (fun hb => ?_))
        exact h _ (Only.trans ⟨w1, w2, w3, w4⟩ (((Only.refl w1).set hB w1 _).set hB w1 _)) ⟨⟨_, get_same _ _ _, .nil⟩, hsm⟩
      | @zero bb hz =>
        have h3 : n = 0 := by simp at hx; omega
        subst h3
        have hne : bb ≠ b := by intro e; rw [e, hB] at hz; simp at hz
        have hct : (cutN [] 0 (0 - 0)).bind cellBytes = some [] := rfl
        (try first | refine EvO.nx ?_ | refine EvA.nx ?_); repeat' (first | refine Abs.goH (Abs.cc hB (Abs.cc d1 (Abs.cc hz (hct)))) ?_ | with_reducible refine Abs.fork (fun hb => ?_) (fun hb => ?_))
        exact h _ (Only.trans ⟨w1, w2, w3, w4⟩ (((Only.refl w1).set hB w1 _).set hB w1 _)) ⟨⟨_, get_same _ _ _, .zero ((get_other _ _ _ _ hne).trans ((get_other _ _ _ _ hne).trans hz))⟩, hsm⟩
      | @part bb o w hbb ho =>
        have hcl := byteCells_len w
        have hne : bb ≠ b := by intro e; rw [e, hB] at hbb; simp at hbb
        have hdl := List.length_drop (l := w) (i := o)
        have hct := cut_part (w := w) (o := o) (n := n) (by omega)
        (try first | refine EvO.nx ?_ | refine EvA.nx ?_); repeat' (first | refine Abs.goH (Abs.cc hB (Abs.cc d1 (Abs.cc hbb (Abs.cc hcl (hct))))) ?_ | with_reducible refine Abs.fork (fun hb => ?_) (fun hb => ?_))
        refine h _ (Only.trans ⟨w1, w2, w3, w4⟩ (((Only.refl w1).set hB w1 _).set hB w1 _)) ⟨⟨_, get_same _ _ _, ?_⟩, by rw [List.length_drop]; omega⟩
        exact .later ((get_other _ _ _ _ hne).trans ((get_other _ _ _ _ hne).trans hbb)) (by omega) ho
attribute [local go_sem] List.length_nil
theorem rdEnd_ev (hs : Sm 53 = none) {s : St} {b : Nat} {r : Rd} (hr : RdAt s b r) (h : Q (.val (.int .i64 (if r.bad = true ∨ r.b ≠ [] then 14 else 0)) s)) :
    Ev Tryz.prog Sm (.inv (.fn (.func 53) #[]) [.pointer (some ⟨b, 0, none⟩)] s) Q := by
  refine Ev.func hs Tryz.func53 rfl (m := 15) rfl ?_
  simp only [Array.toList_empty, List.append_nil, ofList_cons, ofList_nil]
  obtain ⟨⟨v, hB, hv⟩, hsm⟩ := hr
  obtain ⟨l, bad⟩ := r
  simp only at hB hv hsm h
  obtain ⟨va, vn, vc, rfl⟩ : ∃ a n c, v = .slice a n c := by cases hv <;> exact ⟨_, _, _, rfl⟩
  have hvn : vn = l.length := by cases hv <;> rfl
  subst hvn
  cases bad with
  | true =>
    (try first | refine EvO.nx ?_ | refine EvA.nx ?_); repeat' (first | refine Abs.goH hB ?_ | with_reducible refine Abs.fork (fun hb => ?_) (fun hb => ?_))
    simpa using h
  | false =>
    cases l with
    | nil =>
      (try first | refine EvO.nx ?_ | refine EvA.nx ?_); repeat' (first | refine Abs.goH hB ?_ | with_reducible refine Abs.fork (fun hb => ?_) (fun hb => ?_))
      simpa using h
    | cons x l =>
      have d1 : decide ((0 : Int) < (((x :: l).length : Nat) : Int)) = true := decide_eq_true (by rw [List.length_cons]; omega)
      (try first | refine EvO.nx ?_ | refine EvA.nx ?_); repeat' (first | refine Abs.goH (Abs.cc hB (d1)) ?_ | with_reducible refine Abs.fork (fun hb => ?_) (fun hb => ?_))
      simpa using h
end
end Go.Proofs.YtbakhdgiimjnkaaGreatDoor
