/-
  The evaluator and what is proved of it (several texts in one).
-/
import Derived.Test.YtbakhdgiimjnkaaGreatDoorEvCut
import Derived.Test.YtbakhdgiimjnkaaGreatDoorWOpen2
import Derived.Test.YtbakhdgiimjnkaaGreatDoorEvSet
set_option linter.unusedVariables false
set_option linter.unusedSimpArgs false
/-
  Slices of bytes that came of a text: put behind, in place or anew. (Rules; no program in sight.)
-/
namespace Go.Proofs.YtbakhdgiimjnkaaGreatDoor.Abs
section
set_option linter.unusedVariables false
variable {P : Program}
/-- the two kinds of what is frozen of an open block: nothing at all -/
def NoFz (fz : Nat × Nat) : Prop := fz = (0, 0) ∨ fz = (open_, open_)
theorem turn_fz {β : Type} {st : St} {b o : Nat} {vs l : List Value} {e : TypeId} {s : Nat} {opn : Bool} {fz : Nat × Nat} (hz : NoFz fz) (hb : st.heap.get b = some (.cells l e s opn fz)) (h1 : vs.all oneB = true) (h2 : o + vs.length ≤ l.length) (h3 : o + vs.length ≤ open_) (k : St → Rs β) :
    turn st b o vs k = k ⟨st.heap.set b (.cells (l.take o ++ (vs ++ l.drop (o + vs.length))) e s opn fz), st.next⟩ := by
  unfold turn
  rw [hb]
  show ifb ((Nat.ble fz.2 o || Nat.ble (o + lenN vs) fz.1) && vs.all oneB) ((Rs.of 76 (over l o vs)).bind fun l => st.put b (.cells l e s opn fz) k) (.no 76 "") = _
  have hg : (Nat.ble fz.2 o || Nat.ble (o + lenN vs) fz.1) = true := by
    rw [lenN_eq]
    rcases hz with rfl | rfl
    · simp
    · rw [Bool.or_eq_true]
      exact .inr (by simpa using h3)
  rw [h1, hg, over_eq, if_pos h2]
  show st.put b _ k = _
  rw [St.put_eq]
/-- an append to an open block that lies from its beginning on -/
theorem EvO.appendF {st : St} {t e : TypeId} {xt : List TypeId} {by_ : Nat} {z x : Value} {b n m : Nat} {l cs nw : List Value} {fz : Nat × Nat} {K : Value → St → Prop} (hwf : st.wf) (hu : P.underlying t = some (.slice e)) (hsz : szT P e = .ok 1) (hby : bytesT P e = .ok by_) (hz : zeroT P e = .ok z) (hzl : (cellsOf z).length = 1)
    (hb : st.heap.get b = some (.cells l e 1 true fz)) (hfz : NoFz fz) (hl : n ≤ l.length) (hc : l.take n = cs) (hx : appSrc P st.heap 1 (cellsOf z) xt x = .ok (m, nw)) (hnw : nw.length = m) (hone : nw.all oneB = true) (hm : 0 < m) (h1 : n + m ≤ 140737488355328) (h2 : (2 * (n + m) + 192) * by_ ≤ 281474976710656)
    (h : ∀ b' st' l', st'.heap.get b' = some (.cells l' e 1 true fz) → l'.take (n + m) = cs ++ nw → n + m ≤ l'.length → (b' = st.next ∨ b' = b) → st'.wf → st.next ≤ st'.next → (∀ c y, st.heap.get c = some y → c ≠ b → st'.heap.get c = some y) → K (.slice (some ⟨b', 0, none⟩) (n + m) open_) st') :
    EvO (fun _ k => aAppend P st (t :: xt) (.slice (some ⟨b, 0, none⟩) n open_) x fun v s => k v [] s) K := by
  have hn : n < open_ := by unfold open_; omega
  have hu' : undT P t = .ok (.slice e) := by rw [undT_eq, hu]; rfl
  have hm0 : Nat.beq m 0 = false := by
    cases m with
    | zero => omega
    | succ m => rfl
  have hcl : cs.length = n := by rw [← hc, List.length_take]; omega
  have start : ∀ {β : Type} (k : Value → St → Rs β), aAppend P st (t :: xt) (.slice (some ⟨b, 0, none⟩) n open_) x k = appOpen2 st e 1 b 0 n m nw l fz k := by
    intro β k
    show (undT P t).bind _ = _
    rw [hu']
    show (szT P e).bind _ = _
    rw [hsz]
    show (bytesT P e).bind _ = _
    rw [hby]
    show (zeroT P e).bind _ = _
    rw [hz]
    show (appSrc P st.heap 1 (cellsOf z) xt x).bind _ = _
    rw [hx]
    show ifb (appLim (.slice (some ⟨b, 0, none⟩) n open_) m by_ && Nat.beq (lenN (cellsOf z)) 1) (ifb (Nat.beq m 0) (k _ st) (appTo st e 1 m nw (.slice (some ⟨b, 0, none⟩) n open_) k)) _ = _
    rw [limit_ok rfl h1 h2, lenN_eq, hzl, Nat.beq_refl, hm0]
    show ifb (Nat.blt open_ open_) (ifb (Nat.ble (n + m) open_) (turn st b (0 + n * 1) nw (k (sliceTo b 0 (n + m) open_))) ((srcCells st.heap 1 (.slice (some ⟨b, 0, none⟩) n open_)).bind fun old => opened st e 1 (n + m) (old.2 ++ nw) k)) (appOpen st e 1 b 0 n m nw k (st.heap.get b)) = _
    rw [ifb_blt, if_neg (Nat.lt_irrefl _), hb]
    show ifb (Nat.beq e e && Nat.beq 1 1 && Nat.beq (0 % 1) 0) (appOpen2 st e 1 b 0 n m nw l fz k) (.no 79 "") = _
    rw [Nat.beq_refl]
    rfl
  have hfz2 : (Nat.beq fz.1 0 && Nat.beq fz.2 0 || Nat.beq fz.1 open_ && Nat.beq fz.2 open_ || Nat.beq 0 0 && Nat.ble fz.2 n) = true := by
    rcases hfz with rfl | rfl
    · rfl
    · rw [Nat.beq_refl]
      rfl
  by_cases hin : n + m ≤ l.length
  · refine EvO.mk' (v := .slice (some ⟨b, 0, none⟩) (n + m) open_) (s' := ⟨st.heap.set b (.cells (l.take n ++ (nw ++ l.drop (n + nw.length))) e 1 true fz), st.next⟩) (fun ih k => ?_) (h b _ _ (get_same _ _ _) ?_ ?_ (.inr rfl) (fun c y hc' => ?_) (Nat.le_refl _) fun c y hc' hne => (get_other _ _ _ _ hne).trans hc')
    · rw [start]
      unfold appOpen2
      rw [ifb_ble, lenN_eq, if_pos (by omega), turn_fz hfz hb hone (by omega) (by unfold open_; omega)]
      simp only [Nat.mul_one, Nat.zero_add]
      rfl
    · rw [hc, ← List.append_assoc, List.take_append_of_le_length (by rw [List.length_append]; omega), List.take_of_length_le (by rw [List.length_append]; omega)]
    · simp only [List.length_append, List.length_take, List.length_drop]
      omega
    · rcases Tr.get_set hc' with ⟨rfl, _⟩ | ⟨_, hc'⟩
      · exact hwf _ _ hb
      · exact hwf c y hc'
  · refine EvO.mk' (v := .slice (some ⟨st.next, 0, none⟩) (n + m) open_) (s' := ⟨(st.heap.del b).set st.next (.cells (l.take n ++ nw) e 1 true fz), st.next + 1⟩) (fun ih k => ?_) (h st.next _ _ (get_same _ _ _) ?_ ?_ (.inl rfl) (fun c y hc' => ?_) (Nat.le_succ _) fun c y hc' hne => ?_)
    · rw [start]
      unfold appOpen2
      rw [ifb_ble, lenN_eq, if_neg (by omega), hfz2]
      show ifb (nw.all oneB) ((Rs.of 79 (cutN l 0 (n * 1))).bind fun old => st.kill b fun st => st.new (.cells (old ++ nw) e 1 true fz) fun b => k (sliceTo b 0 (n + m) open_) []) (.no 79 "") = _
      rw [hone, cutN_eq, if_pos (by omega)]
      show st.kill b (fun st => st.new (.cells ((l.drop 0).take (n * 1) ++ nw) e 1 true fz) fun b => k (sliceTo b 0 (n + m) open_) []) = _
      rw [St.kill_eq, St.new_eq, List.drop_zero, Nat.mul_one]
      rfl
    · rw [hc, List.take_of_length_le (by rw [List.length_append]; omega)]
    · rw [List.length_append, List.length_take]
      omega
    · rcases Tr.get_set hc' with ⟨rfl, _⟩ | ⟨_, hc'⟩
      · exact Nat.lt_succ_self _
      · exact Nat.lt_succ_of_lt (hwf c y (Tr.get_del hc').2)
    · rw [get_other _ _ _ _ (Nat.ne_of_lt (hwf c y hc'))]
      rw [show (st.heap.del b).get c = st.heap.get c from Tr.get_put_ne hne]
      exact hc'
end
end Go.Proofs.YtbakhdgiimjnkaaGreatDoor.Abs

/-
  wal's laws: a record's bytes, at the evaluator.
-/
namespace Go.Proofs.YtbakhdgiimjnkaaGreatDoor
open Abs
set_option maxHeartbeats 16000000
set_option maxRecDepth 20000
set_option linter.unusedSimpArgs false
attribute [local irreducible] Abs.Ev Abs.EvF Abs.EvO Abs.EvA Abs.Seq Abs.Blk Abs.Body Abs.Scp Abs.EvG Abs.EvAg Abs.Nx
attribute [local go_sem] Tryz.underlying3 Ty.sz3 Ty.by3 Ty.ag3 Ty.ze3 Tryz.underlying4 Ty.sz4 Ty.by4 Ty.ag4 Ty.ze4 Tryz.underlying5 Ty.sz5 Ty.by5 Ty.ag5 Ty.ze5 Tryz.underlying9 Ty.sz9 Ty.by9 Ty.ag9 Ty.ze9 Tryz.underlying28 Ty.sz28 Ty.by28 Ty.ag28 Ty.ze28 Tryz.underlying45 Ty.sz45 Ty.by45 Ty.ag45 Ty.ze45 Tryz.underlying78 Ty.sz78 Ty.by78 Ty.ag78 Ty.ze78
section
variable {Sm : Summ} {Q : Ans → Prop}
/-- a number's last four bits -/
def and15 (a : Int) : Nat := (BitVec.ofInt 64 a &&& BitVec.ofInt 64 15).toNat
theorem and15_lt (a : Int) : and15 a < 16 := by
  unfold and15
  rw [BitVec.toNat_and]
  have : (BitVec.ofInt 64 15).toNat = 15 := rfl
  rw [this]
  exact Nat.and_lt_two_pow (n := 4) _ (by decide)
theorem and_k2 {P : Program} {h : Tr AObj} {t : TypeId} {c : Bool} (k : IntKind) (a b : Int) : aBin P h .and t c (.int k a) (.int k b) = intR k (iBit2 .and Nat.land k a b) := by
  show ifb (kEq k k) (intR k (iBit2 .and Nat.land k a b)) _ = _
  rw [kEq_self]
  rfl
theorem and15_ev (a : Int) (P : Program) (h : Tr AObj) (t : TypeId) (c : Bool) : aBin P h .and t c (.int .i64 a) (.int .i64 15) = .ok (.int .i64 ((and15 a : Nat) : Int)) := by
  have hm := and15_lt a
  rw [and_k2, intR_eq, iAnd_eq]
  show Rs.ok (Value.int .i64 (IntKind.i64.wrap ((and15 a : Nat) : Int))) = _
  rw [wrap_i64 _ (by omega) (by omega)]
/-- a text, so many times more -/
def recL (d : List UInt8) : Nat → List UInt8
  | 0 => d
  | m + 1 => recL d m ++ d
theorem recL_len (d : List UInt8) : ∀ m, (recL d m).length = d.length * (m + 1)
  | 0 => by simp [recL]
  | m + 1 => by
    show (recL d m ++ d).length = _
    rw [List.length_append, recL_len d m, Nat.mul_succ d.length (m + 1)]
set_option maxRecDepth 20000 in
theorem record_ev (hs : Sm 44 = none) {s : St} (hwf : s.wf) {op nn : Int} {d : List UInt8} {pk : Value} (hd : d.length ≤ 4000) (h : ∀ v s', Keep s s' → BytesB s' v (recL d (and15 nn)) → (∀ c, inBlk v c → s.next ≤ c ∧ ∃ y, s'.heap.get c = some y ∧ ∀ l, y ≠ .cells l 28 1 true (0, 0)) → Q (.val v s')) :
    Ev Tryz.prog Sm (.inv (.fn (.func 44) #[]) [.agg #[.int .i64 op, .int .i64 nn, .string ⟨⟨d⟩⟩, pk]] s) Q := by
  refine Ev.func hs Tryz.func44 rfl (m := 20) rfl ?_
  simp only [Array.toList_empty, List.append_nil, ofList_cons, ofList_nil]
  (try first | refine EvO.nx ?_ | refine EvA.nx ?_); repeat' (first | refine Abs.go ?_ | with_reducible refine Abs.fork (fun hb => ?_) (fun hb => ?_))
  have k2 := ((Keep.refl hwf).new (.cells [.int .i64 op, .int .i64 nn, .string ⟨⟨d⟩⟩, pk] 78 0 false (0, 0))).new (.cells (byteCells d) 5 1 true (open_, open_))
  have hbl := byteCells_len d
  have ha := and15_ev nn
  have hm := and15_lt nn
  generalize and15 nn = m at *
  refine Ev.loop (fun k a' s' => ∃ T, ∃ i bb : Nat, ∃ l, a' = ⟨T, 20, []⟩ ∧ T.get 1 = some (.pointer (some ⟨s.next, 0, none⟩)) ∧ T.get 3 = some (.slice (some ⟨bb, 0, none⟩) (recL d i).length open_) ∧ T.get 4 = some (.int .i64 ((i : Nat) : Int)) ∧ i ≤ m ∧ k = m - i ∧
      Keep s s' ∧ s'.heap.get s.next = some (.cells [.int .i64 op, .int .i64 nn, .string ⟨⟨d⟩⟩, pk] 78 0 false (0, 0)) ∧ s'.heap.get bb = some (.cells l 5 1 true (open_, open_)) ∧ (recL d i).length ≤ l.length ∧ l.take (recL d i).length = byteCells (recL d i) ∧ s.next < bb) (k := m)
    ⟨_, 0, s.next + 1, byteCells d, rfl, ?g1, ?g3, ?g4, Nat.zero_le _, rfl, k2, by simp (disch := first | omega | assumption) only [go_sem, ], by simp (disch := first | omega | assumption) only [go_sem, ], by rw [hbl]; exact Nat.le_refl _, List.take_of_length_le (by rw [hbl]; exact Nat.le_refl _), Nat.lt_succ_self _⟩ ?_
  case g1 => simp (disch := first | omega | assumption) only [go_sem, ]
  case g3 => simp (disch := first | omega | assumption) only [go_sem, ]; try rfl
  case g4 => simp (disch := first | omega | assumption) only [go_sem, ]; try rfl
  rintro k a' s3 ⟨T, i, bb, l, rfl, g1, g3, g4, hi, rfl, k3, hact, hbb, hll, hlt, hlo⟩
  have hrl := recL_len d i
  by_cases him : i < m
  · (try first | refine EvO.nx ?_ | refine EvA.nx ?_); repeat' (first | refine Abs.goH (Abs.cc g1 (Abs.cc g3 (Abs.cc g4 (Abs.cc hact (ha))))) ?_ | with_reducible refine Abs.fork (fun hb => ?_) (fun hb => ?_))
    have hsucc : recL d (i + 1) = recL d i ++ d := rfl
    by_cases hd0 : d = []
    · subst hd0
      have hsame : recL [] (i + 1) = recL [] i := by rw [hsucc, List.append_nil]
      refine EvO.append0B ⟨_, _, rfl⟩ ((appSrc_string Tryz.underlying9).trans (src_str _ _)) (by simp only [List.length_nil] at hrl; omega) ?_
      (try first | refine EvO.nx ?_ | refine EvA.nx ?_); repeat' (first | refine Abs.goH (Abs.cc g1 (Abs.cc g3 (Abs.cc g4 (Abs.cc hact (ha))))) ?_ | with_reducible refine Abs.fork (fun hb => ?_) (fun hb => ?_))
      refine ⟨m - (i + 1), by omega, _, i + 1, bb, l, rfl, ?_, ?_, ?_, by omega, rfl, k3, hact, hbb, by rw [hsame]; exact hll, by rw [hsame]; exact hlt, hlo⟩
      · simp (disch := first | omega | assumption) only [go_sem, g1]
      · simp (disch := first | omega | assumption) only [go_sem, hsame]
      · simp (disch := first | omega | assumption) only [go_sem, Int.natCast_add, Int.natCast_one]
    · have hdl : 0 < d.length := by
        cases d with
        | nil => exact absurd rfl hd0
        | cons x d => exact Nat.succ_pos _
      have hb1 : (recL d i).length ≤ 64000 := by
        rw [hrl]
        exact Nat.le_trans (Nat.mul_le_mul hd (by omega : i + 1 ≤ 16)) (by decide)
      have hone := byteCells_one d
      refine EvO.appendF (m := d.length) (nw := byteCells d) k3.wf Tryz.underlying28 Ty.sz5 Ty.by5 Ty.ze5 rfl hbb (.inr rfl) hll hlt ((appSrc_string Tryz.underlying9).trans (src_str _ _)) hbl hone hdl (by omega) (by omega) fun b' st' l' q1 q2 q3 q4 q5 q6 q7 => ?_
      have hn3 := k3.next
      have hbb3 := k3.wf _ _ hbb
      have hlen : (recL d (i + 1)).length = (recL d i).length + d.length := by rw [hsucc, List.length_append]
      (try first | refine EvO.nx ?_ | refine EvA.nx ?_); repeat' (first | refine Abs.goH (Abs.cc g1 (Abs.cc g3 (Abs.cc g4 (ha)))) ?_ | with_reducible refine Abs.fork (fun hb => ?_) (fun hb => ?_))
      refine ⟨m - (i + 1), by omega, _, i + 1, b', l', rfl, ?_, ?_, ?_, by omega, rfl, k3.but q5 q6 (fun c y hc hy => q7 c y hy (by omega)) hwf, q7 _ _ hact (by omega), q1, by rw [hlen]; exact q3, ?_, by omega⟩
      · simp (disch := first | omega | assumption) only [go_sem, g1]
      · simp (disch := first | omega | assumption) only [go_sem, hlen]
      · simp (disch := first | omega | assumption) only [go_sem, Int.natCast_add, Int.natCast_one]
      · rw [hlen, q2, hsucc, byteCells_eq, byteCells_eq, byteCells_eq, List.map_append]
  · obtain rfl : i = m := by omega
    (try first | refine EvO.nx ?_ | refine EvA.nx ?_); repeat' (first | refine Abs.goH (Abs.cc g1 (Abs.cc g3 (Abs.cc g4 (Abs.cc hact (ha))))) ?_ | with_reducible refine Abs.fork (fun hb => ?_) (fun hb => ?_))
    refine h _ _ k3 ⟨⟨_, _, rfl⟩, ?_⟩ fun c hc => ?_
    · show (match s3.heap.get bb with
        | some (.cells l _ _ _ _) => (Rs.of 75 (cutN l 0 ((recL d i).length * 1))).bind fun cs => Rs.ok ((recL d i).length, cs)
        | some (.const l _) => (Rs.of 75 (cutN l 0 ((recL d i).length * 1))).bind fun cs => Rs.ok ((recL d i).length, cs)
        | _ => .no 75 "") = _
      rw [hbb]
      show (Rs.of 75 (cutN l 0 ((recL d i).length * 1))).bind _ = _
      rw [Nat.mul_one, cutN_eq, if_pos (by omega), List.drop_zero, hlt]
      rfl
    · obtain ⟨o', n', c', e⟩ := hc
      cases e
      exact ⟨by omega, _, hbb, fun l e => by cases e⟩
end
end Go.Proofs.YtbakhdgiimjnkaaGreatDoor

