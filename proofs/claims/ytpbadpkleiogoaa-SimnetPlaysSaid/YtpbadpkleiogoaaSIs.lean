/-
  The law SimnetPlays: do two networks tell the same? At the evaluator.
-/
import Derived.Test.YtpbadpkleiogoaaRefEv3
import Derived.Test.YtpbadpkleiogoaaEvSet
set_option linter.unusedVariables false
set_option linter.unusedSimpArgs false
namespace Go.Proofs.Ytpbadpkleiogoaa
open Abs
section
variable {Sm : Summ} {Q : Ans → Prop}
/-- a call under a guard that holds, in a drawn region -/
theorem Abs.Ev.goCallY {P : Program} {fn : FuncId} {rd : Option Nat} {ops : Array Oper} {i b : Nat} {l : List PStep} {d : Option Tmp} {F : FuncId} {xs : Array Operand} {ats : Array TypeId} {ty : TypeId} {pos : String} {af : Array Edge} {a : Ac} {s : St} {j : Nat} {want : Bool} {t : Tmp} (hi : ops[i]? = some ⟨d, .call ⟨.value (.func F), xs, ats⟩, ty, pos, af, some (j, want)⟩) (hj : (ops[j]?).bind (·.dst) = some t) (hd : okDst a d = true) (ht : a.tmps.get t = some (.bool want))
    (h : EvA (mapR a.ev xs.toList) fun args => Ev P Sm (.inv (.fn (.func F) #[]) args s) fun r => ∃ v s', r = .val v s' ∧ Ev P Sm (.steps fn rd ops l b (a.upd d v) s') Q) : Ev P Sm (.steps fn rd ops (.go i :: l) b a s) Q := by
  obtain ⟨args, hx, h⟩ := h
  rw [Ev_steps_cons]
  let o : Oper := ⟨d, .call ⟨.value (.func F), xs, ats⟩, ty, pos, af, some (j, want)⟩
  have e : (fun ih => onSteps P ih fn rd ops (.go i :: l) b a s) = fun ih => onRec (goPut o a fun a s => ih (.steps fn rd ops l b a s)) (goInv2 recK (ih (.inv (.fn (.func F) #[]) args s))) := by
    funext ih
    show (Rs.of 118 ops[i]?).bind _ = _
    rw [hi]
    show (wantedA ops o a).bind _ = _
    have hw : wantedA ops o a = .ok true := by
      unfold wantedA
      show (Rs.of 105 (((ops[j]?).bind (·.dst)).bind a.tmps.get)).bind _ = _
      rw [hj]
      show (Rs.of 105 (a.tmps.get t)).bind _ = _
      rw [ht]
      cases want <;> rfl
    rw [hw]
    show onRec (goPut o a fun a s => ih (.steps fn rd ops l b a s)) ((mapR a.ev xs.toList).bind fun args => goInv ih s recK args (.func (.func F) #[] #[])) = _
    rw [hx]
    rfl
  rw [e]
  refine EvF.then (f := fun ih r => onRec (goPut o a fun a s => ih (.steps fn rd ops l b a s)) (goInv2 recK r)) h fun r hr => ?_
  obtain ⟨v, s', rfl, hr⟩ := hr
  show EvF P Sm (fun ih => a.put d v fun a => ih (.steps fn rd ops l b a s')) Q
  have e2 : (fun ih : Rq → Rs Ans => a.put d v fun a => ih (.steps fn rd ops l b a s')) = fun ih => ih (.steps fn rd ops l b (a.upd d v) s') := by
    funext ih
    rw [Ac.put_eq hd]
  rw [e2]
  exact hr
/-- a value that is read again under a guard that holds -/
theorem Abs.Ev.againY {P : Program} {fn : FuncId} {rd : Option Nat} {ops : Array Oper} {i b : Nat} {l : List PStep} {o : Oper} {a : Ac} {s : St} {t tg : Tmp} {j : Nat} {want : Bool} (hi : ops[i]? = some o) (hg : o.guard = some (j, want)) (hj : (ops[j]?).bind (·.dst) = some tg) (hd : o.dst = some t) (ht : a.tmps.get tg = some (.bool want))
    (h : EvA (pOp P s.heap o.op a.ev) fun v => EvAg (a.tmps.get t) v (Ev P Sm (.steps fn rd ops l b a s) Q)) : Ev P Sm (.steps fn rd ops (.again i :: l) b a s) Q := by
  obtain ⟨v, h1, u, h2, h3, h4⟩ := h
  rw [Ev_steps_cons]
  have e : (fun ih => onSteps P ih fn rd ops (.again i :: l) b a s) = fun ih => ih (.steps fn rd ops l b a s) := by
    funext ih
    show (Rs.of 118 ops[i]?).bind _ = _
    rw [hi]
    show (wantedA ops o a).bind _ = _
    have hw : wantedA ops o a = .ok true := by
      unfold wantedA
      rw [hg]
      show (Rs.of 105 (((ops[j]?).bind (·.dst)).bind a.tmps.get)).bind _ = _
      rw [hj]
      show (Rs.of 105 (a.tmps.get tg)).bind _ = _
      rw [ht]
      cases want <;> rfl
    rw [hw]
    show onAgain ih fn rd ops l b a s o (pOp P s.heap o.op a.ev) = _
    rw [h1]
    unfold onAgain
    rw [hd]
    show (match Rs.ok v, a.tmps.get t with
      | .ok v, some u => ifb (vEq2 u v) (ih (.steps fn rd ops l b a s)) (.no 119 o.pos)
      | _, _ => .no 119 o.pos) = _
    rw [h2]
    show ifb (vEq2 u v) _ _ = _
    rw [h3]
    rfl
  rw [e]
  exact h4
theorem Abs.Ev.againZ {P : Program} {fn : FuncId} {rd : Option Nat} {ops : Array Oper} {i b : Nat} {l : List PStep} {op : Op} {ty : TypeId} {pos : String} {af : Array Edge} {a : Ac} {s : St} {t tg : Tmp} {j : Nat} {want : Bool} (hi : ops.toList[i]? = some ⟨some t, op, ty, pos, af, some (j, want)⟩) (hj : (ops.toList[j]?).bind (·.dst) = some tg) (ht : a.tmps.get tg = some (.bool want))
    (h : EvA (pOp P s.heap op a.ev) fun v => EvAg (a.tmps.get t) v (Ev P Sm (.steps fn rd ops l b a s) Q)) : Ev P Sm (.steps fn rd ops (.again i :: l) b a s) Q :=
  Abs.Ev.againY (by simpa using hi) rfl (by simpa using hj) rfl ht h
end
set_option maxHeartbeats 16000000
set_option maxRecDepth 20000
set_option linter.unusedSimpArgs false
attribute [local irreducible] Abs.Ev Abs.EvF Abs.EvO Abs.EvA Abs.Seq Abs.Blk Abs.Body Abs.Scp Abs.EvG Abs.EvAg Abs.Nx
attribute [local go_sem] Try.underlying2 Ty.sz2 Ty.by2 Ty.ag2 Ty.ze2 Try.underlying3 Ty.sz3 Ty.by3 Ty.ag3 Ty.ze3 Try.underlying4 Ty.sz4 Ty.by4 Ty.ag4 Ty.ze4 Try.underlying5 Ty.sz5 Ty.by5 Ty.ag5 Ty.ze5 Try.underlying9 Ty.sz9 Ty.by9 Ty.ag9 Ty.ze9 Try.underlying29 Ty.sz29 Ty.by29 Ty.ag29 Ty.ze29 Try.underlying45 Ty.sz45 Ty.by45 Ty.ag45 Ty.ze45 Try.underlying53 Ty.sz53 Ty.by53 Ty.ag53 Ty.ze53 Try.underlying55 Ty.sz55 Ty.by55 Ty.ag55 Ty.ze55 Try.underlying57 Ty.sz57 Ty.by57 Ty.ag57 Ty.ze57 Try.underlying58 Ty.sz58 Ty.by58 Ty.ag58 Ty.ze58 Try.underlying60 Ty.sz60 Ty.by60 Ty.ag60 Ty.ze60 Try.underlying62 Ty.sz62 Ty.by62 Ty.ag62 Ty.ze62 Try.underlying67 Ty.sz67 Ty.by67 Ty.ag67 Ty.ze67 Try.underlying84 Ty.sz84 Ty.by84 Ty.ag84 Ty.ze84 Try.underlying85 Ty.sz85 Ty.by85 Ty.ag85 Ty.ze85 Try.underlying87 Ty.sz87 Ty.by87 Ty.ag87 Ty.ze87 Try.underlying90 Ty.sz90 Ty.by90 Ty.ag90 Ty.ze90
section
variable {Sm : Summ} {Q : Ans → Prop}
theorem pkt_eq (h : Tr AObj) (a b c d : Int) : aEq Try.prog h 40 84 (.agg ⟨[.int .i64 a, .int .i64 b, .int .i64 c, .int .i64 d]⟩) (.agg ⟨[.int .i64 a, .int .i64 b, .int .i64 c, .int .i64 d]⟩) = ifb (iBeq a a) (ifb (iBeq b b) (ifb (iBeq c c) (ifb (iBeq d d) (.ok true) (.ok false)) (.ok false)) (.ok false)) (.ok false) := by kernel_rfl
theorem pkt_neq (h : Tr AObj) (k : Bool) (a b c d : Int) : aBin Try.prog h .neq 84 k (.agg ⟨[.int .i64 a, .int .i64 b, .int .i64 c, .int .i64 d]⟩) (.agg ⟨[.int .i64 a, .int .i64 b, .int .i64 c, .int .i64 d]⟩) = .ok (.bool false) := by
  have e : ∀ x : Int, iBeq x x = true := fun x => by rw [iBeq_eq]; simp
  have e1 : eqOk Try.prog 84 k (.agg ⟨[.int .i64 a, .int .i64 b, .int .i64 c, .int .i64 d]⟩) (.agg ⟨[.int .i64 a, .int .i64 b, .int .i64 c, .int .i64 d]⟩) = true := by kernel_rfl
  show ifb (eqOk Try.prog 84 k (.agg ⟨[.int .i64 a, .int .i64 b, .int .i64 c, .int .i64 d]⟩) (.agg ⟨[.int .i64 a, .int .i64 b, .int .i64 c, .int .i64 d]⟩)) ((aEq Try.prog h 40 84 (.agg ⟨[.int .i64 a, .int .i64 b, .int .i64 c, .int .i64 d]⟩) (.agg ⟨[.int .i64 a, .int .i64 b, .int .i64 c, .int .i64 d]⟩)).bind fun b => Rs.ok (Value.bool (!b))) (Rs.no 33 "") = _
  rw [e1, pkt_eq, e, e, e, e]
  rfl
attribute [local go_sem] pkt_build pkt_neq Abs.pBuild
theorem is_ev (n : NoNet Sm) (hI : Sm 37 = none) {s : St} (hwf : s.wf) {O1 O2 : Nat → Prop} {nb wb : Nat} {L1 L2 : Pks} {sent : Nat} {now : Int} {fed : List Nat} {z : Nat} (h1 : SN s O1 nb L1 sent now fed z) (h2 : RN s O2 wb L2 sent now fed z) (he : L1.map (·.2) = L2.map (·.2)) (hL : L1.length ≤ 1000) (hlen : ∀ e ∈ L1, e.2.b.length ≤ 140737488351232)
    (h : ∀ s', Keep s s' → Q (.val (.bool true) s')) :
    Ev Try.prog Sm (.inv (.fn (.func 37) #[]) [.pointer (some ⟨nb, 0, none⟩), .pointer (some ⟨wb, 0, none⟩)] s) Q := by
  refine Ev.func hI Try.func37 rfl (m := 68) rfl ?_
  simp only [Array.toList_empty, List.append_nil, ofList_cons, ofList_nil]
  have hl2 : L2.length = L1.length := by
    have := congrArg List.length he
    rw [List.length_map, List.length_map] at this
    exact this.symm
  obtain ⟨pv, fv, g0, g2, g3, g4, g5, g6⟩ := h2.ex
  obtain ⟨hsrc, pa, pc, rfl⟩ := g2.src
  (try first | refine EvO.nx ?_ | refine EvA.nx ?_); repeat' (first | refine Abs.go ?_ | with_reducible refine Abs.fork (fun hb => ?_) (fun hb => ?_))
  refine npackets_ev n hwf h1 hL hlen fun v s1 k1 ov => ⟨_, _, rfl, ?_⟩
  have h1a := h1.old k1
  have g1 := k1.old _ _ g0
  obtain ⟨_, va, vc, rfl⟩ := ov.vec.src
  rw [hl2] at g1 g0
  (try first | refine EvO.nx ?_ | refine EvA.nx ?_); repeat' (first | refine Abs.goH g1 ?_ | with_reducible refine Abs.fork (fun hb => ?_) (fun hb => ?_))
  refine Abs.Ev.regionD (n := 0) (l := [.go 0, .go 1, .go 2, .go 3, .go 4, .go 5, .go 6, .go 7, .go 8, .go 9, .go 11, .go 12, .go 13, .go 14, .go 10, .again 14, .go 15, .go 16, .go 17, .go 18, .go 20, .go 21, .go 22, .go 23, .go 19, .again 23, .go 24, .go 25]) (by kernel_rfl) ?_
  (try first | refine EvO.nx ?_ | refine EvA.nx ?_); repeat' (first | refine Abs.goH g1 ?_ | with_reducible refine Abs.fork (fun hb => ?_) (fun hb => ?_))
  apply Abs.Ev.goCallY rfl rfl rfl
  · simp (disch := omega) only [go_sem, ne_eq, not_true_eq_false, decide_false]
  (try first | refine EvO.nx ?_ | refine EvA.nx ?_); repeat' (first | refine Abs.goH g1 ?_ | with_reducible refine Abs.fork (fun hb => ?_) (fun hb => ?_))
  refine nsent_ev n h1a ⟨_, _, rfl, ?_⟩
  apply Abs.Ev.againZ rfl rfl
  · simp (disch := omega) only [go_sem, ne_eq, not_true_eq_false, decide_false]
  simp (disch := omega) only [go_sem, g1]
  (try first | refine EvO.nx ?_ | refine EvA.nx ?_); repeat' (first | refine Abs.goH g1 ?_ | with_reducible refine Abs.fork (fun hb => ?_) (fun hb => ?_))
  apply Abs.Ev.goCallY rfl rfl rfl
  · simp (disch := omega) only [go_sem, ne_eq, not_true_eq_false, decide_false]
  (try first | refine EvO.nx ?_ | refine EvA.nx ?_); repeat' (first | refine Abs.goH g1 ?_ | with_reducible refine Abs.fork (fun hb => ?_) (fun hb => ?_))
  refine nnow_ev n h1a ⟨_, _, rfl, ?_⟩
  apply Abs.Ev.againZ rfl rfl
  · simp (disch := omega) only [go_sem, ne_eq, not_true_eq_false, decide_false]
  simp (disch := omega) only [go_sem, g1]
  (try first | refine EvO.nx ?_ | refine EvA.nx ?_); repeat' (first | refine Abs.goH g1 ?_ | with_reducible refine Abs.fork (fun hb => ?_) (fun hb => ?_))
  rcases Nat.eq_zero_or_pos L1.length with hz | hpos
  · refine Ev.loop (fun k a' s' => ∃ T, a' = ⟨T, 68, []⟩ ∧ T.get 5 = some (.slice va L1.length vc) ∧ T.get 6 = some (.int .i64 0) ∧ k = 0 ∧ s' = s1) (k := 0) ⟨_, rfl, ?t5, ?t6, rfl, rfl⟩ ?_
    case t5 => simp (disch := first | omega | assumption) only [go_sem, ]
    case t6 => simp (disch := first | omega | assumption) only [go_sem, ]
    rintro k a' s2 ⟨T, rfl, t5, t6, rfl, rfl⟩
    rw [hz] at t5
    (try first | refine EvO.nx ?_ | refine EvA.nx ?_); repeat' (first | refine Abs.goH (Abs.cc t5 (t6)) ?_ | with_reducible refine Abs.fork (fun hb => ?_) (fun hb => ?_))
    exact h _ k1
  · obtain ⟨pb, o, w0, e, hb, ho, hl, hc⟩ := room_of ov.vec ov.room hpos (by unfold open_; omega)
    cases e
    have hpb := ov.lo pb ⟨_, _, rfl⟩
    refine Ev.loop (fun k a' s' => ∃ T, ∃ i : Nat, ∃ w, a' = ⟨T, 68, []⟩ ∧ T.get 1 = some (.pointer (some ⟨wb, 0, none⟩)) ∧ T.get 5 = some (.slice (some ⟨pb, o, none⟩) L1.length open_) ∧ T.get 6 = some (.int .i64 ((i : Nat) : Int)) ∧ i ≤ L1.length ∧ k = L1.length - i ∧ Keep s s' ∧ s'.heap.get pb = some (.cells w 84 4 true (0, 0)) ∧ w.length = w0.length ∧ (w.drop (o + i * 4)).take ((L1.length - i) * 4) = cellsK ((L1.map (·.2)).drop i)) (k := L1.length) ⟨_, 0, w0, rfl, ?t1, ?t5, ?t6, Nat.zero_le _, rfl, k1, hb, rfl, by simpa using hc⟩ ?_
    case t1 => simp (disch := first | omega | assumption) only [go_sem, ]
    case t5 => simp (disch := first | omega | assumption) only [go_sem, ]
    case t6 => simp (disch := first | omega | assumption) only [go_sem, ]; try rfl
    rintro k a' s2 ⟨T, i, w, rfl, t1, t5, t6, hi, rfl, k2, hw, hwl, hinv⟩
    by_cases hil : i < L1.length
    · obtain ⟨xb, xo, xc, wx, e, hwx, hcut⟩ := pks_at hsrc rfl ⟨_, _, rfl⟩ (by omega : i < L2.length)
      cases e
      have hwx' := obj_old k2.old hwx
      have hci := hcut i (by omega)
      have hmem := h2.bytes L2[i] (List.getElem_mem (by omega))
      have hdr : (L1.map (·.2)).drop i = L2[i].2 :: (L1.map (·.2)).drop (i + 1) := by
        rw [he, List.drop_eq_getElem_cons (by rw [List.length_map]; omega), List.getElem_map]
      rw [hdr] at hinv
      have hln : L2[i].2.b.length ≤ 140737488351232 := by
        have hm : L2[i].2 ∈ L1.map (·.2) := by rw [he]; exact List.mem_map_of_mem (List.getElem_mem (by omega))
        obtain ⟨e, he1, he2⟩ := List.mem_map.1 hm
        rw [← he2]
        exact hlen e he1
      generalize L2[i] = e at *
      obtain ⟨bv, q⟩ := e
      unfold pkC at hci
      simp only at hci hmem hinv hln
      obtain ⟨⟨ba, bc, rfl⟩, _⟩ := hmem.1.bytes
      have hinv2 : (w.drop (o + (i + 1) * 4)).take ((L1.length - (i + 1)) * 4) = cellsK ((L1.map (·.2)).drop (i + 1)) := by
        have := congrArg (fun l => l.drop 4) hinv
        rw [List.drop_take, List.drop_drop, show (L1.length - i) * 4 - 4 = (L1.length - (i + 1)) * 4 by omega, show o + i * 4 + 4 = o + (i + 1) * 4 by omega] at this
        exact this
      have hci2 : cutN w (o + i * 4) 4 = some (pktC q) := by
        rw [cutN_eq, if_pos (by omega)]
        have := congrArg (fun l => l.take 4) hinv
        rw [List.take_take, Nat.min_eq_left (by omega)] at this
        rw [this]
        rfl
      unfold pktC at hci2
      have g1b := k2.old _ _ g0
      have kb := (Keep.refl k2.wf).newR k2.wf (.cells [.int .i64 0, .int .i64 0, .int .i64 0, .slice none 0 0] 67 0 false (0, 0)) (.cells [.int .i64 q.id, .int .i64 q.from_, .int .i64 q.to, .slice ba q.b.length bc] 67 0 false (0, 0))
      have hwk := kb.old _ _ hw
      (try first | refine EvO.nx ?_ | refine EvA.nx ?_); repeat' (first | refine Abs.goH (Abs.cc t1 (Abs.cc t5 (Abs.cc t6 (Abs.cc g1b (Abs.cc hwx' (hci)))))) ?_ | with_reducible refine Abs.fork (fun hb => ?_) (fun hb => ?_))
      refine Abs.Ev.regionD (n := 0) (l := [.go 0, .go 1, .go 2, .go 3, .go 4, .go 5, .go 6, .go 7, .go 8, .go 9, .go 10, .go 11, .go 12, .go 13, .go 14]) (by kernel_rfl) ?_
      (try first | refine EvO.nx ?_ | refine EvA.nx ?_); repeat' (first | refine Abs.goH (Abs.cc t1 (Abs.cc t5 (Abs.cc t6 (Abs.cc hwk (hci2))))) ?_ | with_reducible refine Abs.fork (fun hb => ?_) (fun hb => ?_))
      refine ⟨L1.length - (i + 1), by omega, _, i + 1, _, rfl, ?_, ?_, ?_, by omega, rfl, Keep.set (k2.trans kb) hpb (kb.wf _ _ hwk) hwf _, get_same _ _ _, by rw [List.length_set, hwl], ?_⟩
      · simp (disch := first | omega | assumption) only [go_sem, t1]
      · simp (disch := first | omega | assumption) only [go_sem, t5]
      · simp (disch := first | omega | assumption) only [go_sem, t6, Int.natCast_add, Int.natCast_one]
      · rw [List.drop_set_of_lt (by omega), hinv2]
    · obtain rfl : i = L1.length := by omega
      (try first | refine EvO.nx ?_ | refine EvA.nx ?_); repeat' (first | refine Abs.goH (Abs.cc t1 (Abs.cc t5 (t6))) ?_ | with_reducible refine Abs.fork (fun hb => ?_) (fun hb => ?_))
      exact h _ k2
end
end Go.Proofs.Ytpbadpkleiogoaa
