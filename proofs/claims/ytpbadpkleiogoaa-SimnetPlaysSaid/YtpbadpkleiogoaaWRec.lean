/-
  Slices of bytes that came of a text: put behind, in place or anew. (Rules; no program in sight.)
-/
import Derived.Test.YtpbadpkleiogoaaEvCut
set_option linter.unusedVariables false
set_option linter.unusedSimpArgs false
namespace Go.Proofs.Ytpbadpkleiogoaa.Abs
section
set_option linter.unusedVariables false
variable {P : Program}
/-- the two kinds of what is frozen of an open block: nothing at all -/
def NoFz (fz : Nat × Nat) : Prop := fz = (0, 0) ∨ fz = (open_, open_)
theorem turn_fz {β : Type} {st : St} {b o : Nat} {vs l : List Value} {e : TypeId} {s : Nat} {opn : Bool} {fz : Nat × Nat} (hz : NoFz fz) (hb : st.heap.get b = some (.cells l e s opn fz)) (h1 : vs.all oneB = true) (h2 : o + vs.length ≤ l.length) (h3 : o + vs.length ≤ open_) (k : St → Rs β) :
    turn st b o vs k = k ⟨st.heap.set b (.cells (l.take o ++ (vs ++ l.drop (o + vs.length))) e s opn fz), st.next⟩ := by
  unfold turn
  rw [hb]
  show ifb ((Nat.ble fz.2 o || Nat.ble (o + lenN vs) fz.1) && vs.all oneB) ((Rs.of 76 (over l o vs)).bind fun l => st.put b (.cells l e s opn fz) k) (.no 76 "") = _
  have hg : (Nat.ble fz.2 o || Nat.ble (o + lenN vs) fz.1) = true := by
    rw [lenN_eq]
    rcases hz with rfl | rfl
    · simp
    · rw [Bool.or_eq_true]
      exact .inr (by simpa using h3)
  rw [h1, hg, over_eq, if_pos h2]
  show st.put b _ k = _
  rw [St.put_eq]
/-- an append to an open block that lies from its beginning on -/
theorem EvO.appendF {st : St} {t e : TypeId} {xt : List TypeId} {by_ : Nat} {z x : Value} {b n m : Nat} {l cs nw : List Value} {fz : Nat × Nat} {K : Value → St → Prop} (hwf : st.wf) (hu : P.underlying t = some (.slice e)) (hsz : szT P e = .ok 1) (hby : bytesT P e = .ok by_) (hz : zeroT P e = .ok z) (hzl : (cellsOf z).length = 1)
    (hb : st.heap.get b = some (.cells l e 1 true fz)) (hfz : NoFz fz) (hl : n ≤ l.length) (hc : l.take n = cs) (hx : appSrc P st.heap 1 (cellsOf z) xt x = .ok (m, nw)) (hnw : nw.length = m) (hone : nw.all oneB = true) (hm : 0 < m) (h1 : n + m ≤ 140737488355328) (h2 : (2 * (n + m) + 192) * by_ ≤ 281474976710656)
    (h : ∀ b' st' l', st'.heap.get b' = some (.cells l' e 1 true fz) → l'.take (n + m) = cs ++ nw → n + m ≤ l'.length → (b' = st.next ∨ b' = b) → st'.wf → st.next ≤ st'.next → (∀ c y, st.heap.get c = some y → c ≠ b → st'.heap.get c = some y) → K (.slice (some ⟨b', 0, none⟩) (n + m) open_) st') :
    EvO (fun _ k => aAppend P st (t :: xt) (.slice (some ⟨b, 0, none⟩) n open_) x fun v s => k v [] s) K := by
  have hn : n < open_ := by unfold open_; omega
  have hu' : undT P t = .ok (.slice e) := by rw [undT_eq, hu]; rfl
  have hm0 : Nat.beq m 0 = false := by
    cases m with
    | zero => omega
    | succ m => rfl
  have hcl : cs.length = n := by rw [← hc, List.length_take]; omega
  have start : ∀ {β : Type} (k : Value → St → Rs β), aAppend P st (t :: xt) (.slice (some ⟨b, 0, none⟩) n open_) x k = appOpen2 st e 1 b 0 n m nw l fz k := by
    intro β k
    show (undT P t).bind _ = _
    rw [hu']
    show (szT P e).bind _ = _
    rw [hsz]
    show (bytesT P e).bind _ = _
    rw [hby]
    show (zeroT P e).bind _ = _
    rw [hz]
    show (appSrc P st.heap 1 (cellsOf z) xt x).bind _ = _
    rw [hx]
    show ifb (appLim (.slice (some ⟨b, 0, none⟩) n open_) m by_ && Nat.beq (lenN (cellsOf z)) 1) (ifb (Nat.beq m 0) (k _ st) (appTo st e 1 m nw (.slice (some ⟨b, 0, none⟩) n open_) k)) _ = _
    rw [limit_ok rfl h1 h2, lenN_eq, hzl, Nat.beq_refl, hm0]
    show ifb (Nat.blt open_ open_) (ifb (Nat.ble (n + m) open_) (turn st b (0 + n * 1) nw (k (sliceTo b 0 (n + m) open_))) ((srcCells st.heap 1 (.slice (some ⟨b, 0, none⟩) n open_)).bind fun old => opened st e 1 (n + m) (old.2 ++ nw) k)) (appOpen st e 1 b 0 n m nw k (st.heap.get b)) = _
    rw [ifb_blt, if_neg (Nat.lt_irrefl _), hb]
    show ifb (Nat.beq e e && Nat.beq 1 1 && Nat.beq (0 % 1) 0) (appOpen2 st e 1 b 0 n m nw l fz k) (.no 79 "") = _
    rw [Nat.beq_refl]
    rfl
  have hfz2 : (Nat.beq fz.1 0 && Nat.beq fz.2 0 || Nat.beq fz.1 open_ && Nat.beq fz.2 open_ || Nat.beq 0 0 && Nat.ble fz.2 n) = true := by
    rcases hfz with rfl | rfl
    · rfl
    · rw [Nat.beq_refl]
      rfl
  by_cases hin : n + m ≤ l.length
  · refine EvO.mk' (v := .slice (some ⟨b, 0, none⟩) (n + m) open_) (s' := ⟨st.heap.set b (.cells (l.take n ++ (nw ++ l.drop (n + nw.length))) e 1 true fz), st.next⟩) (fun ih k => ?_) (h b _ _ (get_same _ _ _) ?_ ?_ (.inr rfl) (fun c y hc' => ?_) (Nat.le_refl _) fun c y hc' hne => (get_other _ _ _ _ hne).trans hc')
    · rw [start]
      unfold appOpen2
      rw [ifb_ble, lenN_eq, if_pos (by omega), turn_fz hfz hb hone (by omega) (by unfold open_; omega)]
      simp only [Nat.mul_one, Nat.zero_add]
      rfl
    · rw [hc, ← List.append_assoc, List.take_append_of_le_length (by rw [List.length_append]; omega), List.take_of_length_le (by rw [List.length_append]; omega)]
    · simp only [List.length_append, List.length_take, List.length_drop]
      omega
    · rcases Tr.get_set hc' with ⟨rfl, _⟩ | ⟨_, hc'⟩
      · exact hwf _ _ hb
      · exact hwf c y hc'
  · refine EvO.mk' (v := .slice (some ⟨st.next, 0, none⟩) (n + m) open_) (s' := ⟨(st.heap.del b).set st.next (.cells (l.take n ++ nw) e 1 true fz), st.next + 1⟩) (fun ih k => ?_) (h st.next _ _ (get_same _ _ _) ?_ ?_ (.inl rfl) (fun c y hc' => ?_) (Nat.le_succ _) fun c y hc' hne => ?_)
    · rw [start]
      unfold appOpen2
      rw [ifb_ble, lenN_eq, if_neg (by omega), hfz2]
      show ifb (nw.all oneB) ((Rs.of 79 (cutN l 0 (n * 1))).bind fun old => st.kill b fun st => st.new (.cells (old ++ nw) e 1 true fz) fun b => k (sliceTo b 0 (n + m) open_) []) (.no 79 "") = _
      rw [hone, cutN_eq, if_pos (by omega)]
      show st.kill b (fun st => st.new (.cells ((l.drop 0).take (n * 1) ++ nw) e 1 true fz) fun b => k (sliceTo b 0 (n + m) open_) []) = _
      rw [St.kill_eq, St.new_eq, List.drop_zero, Nat.mul_one]
      rfl
    · rw [hc, List.take_of_length_le (by rw [List.length_append]; omega)]
    · rw [List.length_append, List.length_take]
      omega
    · rcases Tr.get_set hc' with ⟨rfl, _⟩ | ⟨_, hc'⟩
      · exact Nat.lt_succ_self _
      · exact Nat.lt_succ_of_lt (hwf c y (Tr.get_del hc').2)
    · rw [get_other _ _ _ _ (Nat.ne_of_lt (hwf c y hc'))]
      rw [show (st.heap.del b).get c = st.heap.get c from Tr.get_put_ne hne]
      exact hc'
end
end Go.Proofs.Ytpbadpkleiogoaa.Abs
