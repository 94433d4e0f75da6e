/-
  The evaluator and what is proved of it (several texts in one).
-/
import Derived.Test.YtbakhdgiimjnkaaGreatDoorEvA
import Derived.Test.YtbakhdgiimjnkaaGreatDoorPlA
import Derived.Test.YtbakhdgiimjnkaaGreatDoorTy
import Derived.Test.YtbakhdgiimjnkaaGreatDoorEvSet
set_option linter.unusedVariables false
set_option linter.unusedSimpArgs false
/-
  bin, laying: what slices.Clone, bin.Uint and bin.Text do, at the evaluator.
-/
namespace Go.Proofs.YtbakhdgiimjnkaaGreatDoor
open Abs
set_option maxHeartbeats 16000000
set_option maxRecDepth 20000
set_option linter.unusedSimpArgs false
attribute [local irreducible] Abs.Ev Abs.EvF Abs.EvO Abs.EvA Abs.Seq Abs.Blk Abs.Body Abs.Scp Abs.EvG Abs.EvAg Abs.Nx
attribute [local go_sem] Abs.eDelete
attribute [local go_sem] Tryz.underlying3 Ty.sz3 Ty.by3 Ty.ag3 Ty.ze3 Tryz.underlying4 Ty.sz4 Ty.by4 Ty.ag4 Ty.ze4 Tryz.underlying5 Ty.sz5 Ty.by5 Ty.ag5 Ty.ze5 Tryz.underlying9 Ty.sz9 Ty.by9 Ty.ag9 Ty.ze9 Tryz.underlying24 Ty.sz24 Ty.by24 Ty.ag24 Ty.ze24 Tryz.underlying28 Ty.sz28 Ty.by28 Ty.ag28 Ty.ze28 Tryz.underlying127 Ty.sz127 Ty.by127 Ty.ag127 Ty.ze127
section
variable {Sm : Summ} {Q : Ans → Prop}

/-- bytes to put something behind -/
abbrev BufB (s : St) (v : Value) (l : List UInt8) : Prop := Buf s 5 1 v l.length (byteCells l)
/-- bytes, as they lie -/
def BytesB (s : St) (v : Value) (l : List UInt8) : Prop := (∃ a c, v = .slice a l.length c) ∧ srcCells s.heap 1 v = .ok (l.length, byteCells l)
theorem byteCells_len (l : List UInt8) : (byteCells l).length = l.length := by rw [byteCells_eq, List.length_map]
theorem byteCells_one (l : List UInt8) : (byteCells l).all oneB = true := by
  rw [byteCells_eq, List.all_map, List.all_eq_true]
  intro x _
  rfl
theorem byteCells_append (l m : List UInt8) : byteCells (l ++ m) = byteCells l ++ byteCells m := by simp only [byteCells_eq, List.map_append]
theorem BufB.bytes {s : St} {v : Value} {l : List UInt8} (h : BufB s v l) : BytesB s v l := by
  obtain ⟨h1, a, c, h2⟩ := Buf.src h
  exact ⟨⟨a, c, h2⟩, h1⟩
theorem BytesB.mono {s s' : St} {v : Value} {l : List UInt8} (hk : ∀ b x, s.heap.get b = some x → s'.heap.get b = some x) (h : BytesB s v l) : BytesB s' v l := ⟨h.1, srcCells_mono hk h.2⟩
theorem BytesB.nil (s : St) : BytesB s (.slice none 0 0) [] := ⟨⟨_, _, rfl⟩, rfl⟩
theorem u8_lit0 : aSliceLit Tryz.prog 5 0 [] = .ok (.cells [] 5 0 false (0, 0), fun n => .slice (some ⟨n, 0, none⟩) 0 0) := lit0 Ty.sz5 Ty.ze5 rfl
theorem u8_lit1 (v : Int) : aSliceLit Tryz.prog 5 1 [(0, .int .u8 v)] = .ok (.cells [.int .u8 v] 5 0 false (0, 0), fun n => .slice (some ⟨n, 0, none⟩) 1 1) := lit1 Ty.sz5 Ty.ze5 rfl rfl (by decide)
/-- nothing put behind bytes -/
theorem EvO.append0B {st : St} {xt : List TypeId} {v x : Value} {n : Nat} {nw : List Value} {K : Value → St → Prop} (hv : ∃ a c, v = .slice a n c) (hx : appSrc Tryz.prog st.heap 1 (cellsOf (.int .u8 0)) xt x = .ok (0, nw)) (h1 : n ≤ 140737488355200) (h : K v st) :
    EvO (fun _ k => aAppend Tryz.prog st (28 :: xt) v x fun v s => k v [] s) K := by
  obtain ⟨a, c, rfl⟩ := hv
  exact EvO.mk' (fun ih k => append_zero Tryz.underlying28 Ty.sz5 Ty.by5 Ty.ze5 rfl hx (by omega) (by omega) _) h
theorem EvO.appendO {st : St} {xt : List TypeId} {v x : Value} {l m : List UInt8} {K : Value → St → Prop} (hwf : st.wf) (hv : BufB st v l) (hx : appSrc Tryz.prog st.heap 1 (cellsOf (.int .u8 0)) xt x = .ok (m.length, byteCells m)) (hm : m ≠ []) (h1 : l.length + m.length ≤ 140737488355200)
    (h : ∀ st' : St, st'.heap.get st.next = some (.cells (byteCells (l ++ m)) 5 1 true (0, 0)) → st'.next = st.next + 1 → st'.wf → (∀ b y, st.heap.get b = some y → ¬ owns v b → st'.heap.get b = some y) → K (.slice (some ⟨st.next, 0, none⟩) (l ++ m).length open_) st') :
    EvO (fun _ k => aAppend Tryz.prog st (28 :: xt) v x fun v s => k v [] s) K := by
  have hm0 : 0 < m.length := by cases m with
    | nil => exact absurd rfl hm
    | cons _ _ => simp
  refine EvO.append hwf Tryz.underlying28 Ty.sz5 Ty.by5 Ty.ze5 rfl (by decide) hv (by unfold open_; omega) hx (by rw [byteCells_len, Nat.mul_one]) (byteCells_one m) hm0 (by omega) (by omega) fun st' k1 k2 k3 k4 => ?_
  rw [← List.length_append]
  exact h st' (by rw [byteCells_append]; exact k1) k2 k3 k4
/-- bytes that are put behind one another -/
inductive TxtB (s : St) (lo : Nat) : Value → List UInt8 → Prop where
  | nil : TxtB s lo (.slice none 0 0) []
  | zero {b : Nat} (h : s.heap.get b = some (.cells [] 5 0 false (0, 0))) : TxtB s lo (.slice (some ⟨b, 0, none⟩) 0 0) []
  | own {b : Nat} {l : List UInt8} (h : s.heap.get b = some (.cells (byteCells l) 5 1 true (0, 0))) (hl : l ≠ []) (hb : lo ≤ b) : TxtB s lo (.slice (some ⟨b, 0, none⟩) l.length open_) l
theorem TxtB.buf {s : St} {lo : Nat} {v : Value} {l : List UInt8} (h : TxtB s lo v l) : BufB s v l := by
  cases h with
  | nil => exact .nil
  | zero h => exact .full (src_cells h rfl)
  | own h hl hb => exact .open_ h (by rw [byteCells_len, Nat.mul_one])
attribute [local go_sem] Tryz.underlying28 u8_lit0
/-- the library's copy -/
theorem clone_ev (hs : Sm 80 = none) {s : St} (hwf : s.wf) {v : Value} {l : List UInt8} (hv : BytesB s v l) (hl : l.length ≤ 140737488351232)
    (h : ∀ v' s', Keep s s' → TxtB s' s.next v' l → Q (.val v' s')) :
    Ev Tryz.prog Sm (.inv (.fn (.func 80) #[]) [v] s) Q := by
  obtain ⟨⟨a, c, rfl⟩, hsrc⟩ := hv
  refine Ev.func hs Tryz.func80 rfl (m := 8) rfl ?_
  simp only [Array.toList_empty, List.append_nil, ofList_cons, ofList_nil]
  cases a with
  | none =>
    (try first | refine EvO.nx ?_ | refine EvA.nx ?_); repeat' (first | refine Abs.go ?_ | with_reducible refine Abs.fork (fun hb => ?_) (fun hb => ?_))
    have e : (0, ([] : List Value)) = (l.length, byteCells l) := Rs.ok.inj hsrc
    have e1 : l = [] := List.eq_nil_of_length_eq_zero (congrArg Prod.fst e).symm
    subst e1
    exact h _ _ (Keep.refl hwf) .nil
  | some a =>
    (try first | refine EvO.nx ?_ | refine EvA.nx ?_); repeat' (first | refine Abs.go ?_ | with_reducible refine Abs.fork (fun hb => ?_) (fun hb => ?_))
    have hk := (Keep.refl hwf).new (.cells [] 5 0 false (0, 0))
    have hsrc2 := srcCells_mono hk.old hsrc
    have hb0 : TxtB ⟨s.heap.set s.next (.cells [] 5 0 false (0, 0)), s.next + 1⟩ s.next (.slice (some ⟨s.next, 0, none⟩) 0 0) [] := .zero (get_same _ _ _)
    by_cases hl0 : l = []
    · subst hl0
      refine EvO.append0B ⟨_, _, rfl⟩ ((appSrc_slice Tryz.underlying28).trans hsrc2) (by decide) ?_
      (try first | refine EvO.nx ?_ | refine EvA.nx ?_); repeat' (first | refine Abs.go ?_ | with_reducible refine Abs.fork (fun hb => ?_) (fun hb => ?_))
      exact h _ _ hk hb0
    · refine EvO.appendO hk.wf hb0.buf ((appSrc_slice Tryz.underlying28).trans hsrc2) hl0 (by simp; omega) fun st' k1 k3 k4 k5 => ?_
      (try first | refine EvO.nx ?_ | refine EvA.nx ?_); repeat' (first | refine Abs.go ?_ | with_reducible refine Abs.fork (fun hb => ?_) (fun hb => ?_))
      refine h _ _ (hk.append k3 k4 k5 hwf (by rintro b ⟨n, e⟩; cases e)) ?_
      rw [List.nil_append] at k1
      exact .own k1 hl0 (Nat.le_succ _)
attribute [local go_sem] wrap_u8_nat u8_lit1
theorem TxtB.bytes {s : St} {lo : Nat} {v : Value} {l : List UInt8} (h : TxtB s lo v l) : BytesB s v l := h.buf.bytes
theorem TxtB.mono {s s' : St} {lo lo' : Nat} {v : Value} {l : List UInt8} (hk : ∀ b x, s.heap.get b = some x → s'.heap.get b = some x) (hl : lo' ≤ lo) (h : TxtB s lo v l) : TxtB s' lo' v l := by
  cases h with
  | nil => exact .nil
  | zero h => exact .zero (hk _ _ h)
  | own h h0 hb => exact .own (hk _ _ h) h0 (Nat.le_trans hl hb)
end
end Go.Proofs.YtbakhdgiimjnkaaGreatDoor

/-
  bin, reading: what a reader does, at the evaluator.
-/
namespace Go.Proofs.YtbakhdgiimjnkaaGreatDoor
open Abs
set_option maxHeartbeats 16000000
set_option maxRecDepth 20000
set_option linter.unusedSimpArgs false
attribute [local irreducible] Abs.Ev Abs.EvF Abs.EvO Abs.EvA Abs.Seq Abs.Blk Abs.Body Abs.Scp Abs.EvG Abs.EvAg Abs.Nx
attribute [local go_sem] Abs.eDelete
attribute [local go_sem] Tryz.underlying3 Ty.sz3 Ty.by3 Ty.ag3 Ty.ze3 Tryz.underlying4 Ty.sz4 Ty.by4 Ty.ag4 Ty.ze4 Tryz.underlying5 Ty.sz5 Ty.by5 Ty.ag5 Ty.ze5 Tryz.underlying9 Ty.sz9 Ty.by9 Ty.ag9 Ty.ze9 Tryz.underlying24 Ty.sz24 Ty.by24 Ty.ag24 Ty.ze24 Tryz.underlying28 Ty.sz28 Ty.by28 Ty.ag28 Ty.ze28 Tryz.underlying127 Ty.sz127 Ty.by127 Ty.ag127 Ty.ze127
section
variable {Sm : Summ} {Q : Ans → Prop}
/-- what a reader holds: nothing, or the end of a block of its own -/
inductive RdB (s : St) : Value → List UInt8 → Prop where
  | nil : RdB s (.slice none 0 0) []
  | zero {b : Nat} (h : s.heap.get b = some (.cells [] 5 0 false (0, 0))) : RdB s (.slice (some ⟨b, 0, none⟩) 0 0) []
  | part {b o : Nat} {w : List UInt8} (hb : s.heap.get b = some (.cells (byteCells w) 5 1 true (0, 0))) (ho : o ≤ w.length) : RdB s (.slice (some ⟨b, o, none⟩) (w.drop o).length open_) (w.drop o)
theorem RdB.mono {s s' : St} {v : Value} {l : List UInt8} (hk : ∀ b x, s.heap.get b = some x → s'.heap.get b = some x) (h : RdB s v l) : RdB s' v l := by
  cases h with
  | nil => exact .nil
  | zero h => exact .zero (hk _ _ h)
  | part hb ho => exact .part (hk _ _ hb) ho
theorem TxtB.rd {s : St} {lo : Nat} {v : Value} {l : List UInt8} (h : TxtB s lo v l) : RdB s v l := by
  cases h with
  | nil => exact .nil
  | zero h => exact .zero h
  | own h hl hb => exact RdB.part (o := 0) h (Nat.zero_le _)
/-- a reader, as it lies -/
structure RdAt (s : St) (b : Nat) (r : Rd) : Prop where
  at_ : ∃ v, s.heap.get b = some (.cells [v, .bool r.bad] 127 0 false (0, 0)) ∧ RdB s v r.b
  small : r.b.length ≤ 35184372088832
def numV (o : Option (Nat × Nat)) : Value :=
  match o with
  | none => .tuple #[.int .u64 0, .int .i64 0, .bool false]
  | some (v, n) => .tuple #[.int .u64 (v : Int), .int .i64 (n : Int), .bool true]
theorem numGo_end {l : List UInt8} {i acc : Nat} (h : l = [] ∨ 10 ≤ i) : numGo l i acc = none := by
  cases l with
  | nil => rfl
  | cons x l =>
    unfold numGo
    rw [if_pos (h.resolve_left (by simp))]
attribute [local go_sem] Nat.div_one Nat.sub_zero
theorem num_ev (hs : Sm 83 = none) {s : St} {b : Nat} {r : Rd} (hr : RdAt s b r) (h : Q (.val (numV (numGo r.b 0 0)) s)) :
    Ev Tryz.prog Sm (.inv (.fn (.func 83) #[]) [.pointer (some ⟨b, 0, none⟩)] s) Q := by
  obtain ⟨⟨v, hb, hv⟩, hsm⟩ := hr
  obtain ⟨l, bad⟩ := r
  simp only at hb hv hsm h
  refine Ev.func hs Tryz.func83 rfl (m := 52) rfl ?_
  simp only [Array.toList_empty, List.append_nil, ofList_cons, ofList_nil]
  (try first | refine EvO.nx ?_ | refine EvA.nx ?_); repeat' (first | refine Abs.go ?_ | with_reducible refine Abs.fork (fun hb => ?_) (fun hb => ?_))
  refine Abs.Ev.regionD (n := 0) (l := [.go 0, .go 1, .go 2, .go 3, .go 4, .go 5, .go 6, .go 7, .go 8, .go 9, .go 10, .go 11, .go 12]) (by kernel_rfl) ?_
  cases hv with
  | nil =>
    (try first | refine EvO.nx ?_ | refine EvA.nx ?_); repeat' (first | refine Abs.goH hb ?_ | with_reducible refine Abs.fork (fun hb => ?_) (fun hb => ?_))
    refine Ev.unroll ?_
    (try first | refine EvO.nx ?_ | refine EvA.nx ?_); repeat' (first | refine Abs.go ?_ | with_reducible refine Abs.fork (fun hb => ?_) (fun hb => ?_))
    exact h
  | zero hz =>
    have h0 : (0 : Nat) < open_ := by decide
    (try first | refine EvO.nx ?_ | refine EvA.nx ?_); repeat' (first | refine Abs.goH (Abs.cc hb (h0)) ?_ | with_reducible refine Abs.fork (fun hb => ?_) (fun hb => ?_))
    refine Ev.unroll ?_
    (try first | refine EvO.nx ?_ | refine EvA.nx ?_); repeat' (first | refine Abs.go ?_ | with_reducible refine Abs.fork (fun hb => ?_) (fun hb => ?_))
    exact h
  | @part bb o w hbb ho =>
    have hwl : (w.drop o).length = w.length - o := List.length_drop
    generalize hn : (w.drop o).length = n at *
    have hoo : ¬ open_ < open_ := Nat.lt_irrefl _
    have hcl := byteCells_len w
    generalize hm : (if (10 : Int) < (n : Int) then (10 : Int) else (n : Int)) = m
    have hm0 : 0 ≤ m ∧ m ≤ 10 ∧ m ≤ n := by rw [← hm]; split <;> omega
    obtain ⟨m, rfl⟩ : ∃ k : Nat, m = (k : Int) := ⟨m.toNat, by omega⟩
    (try first | refine EvO.nx ?_ | refine EvA.nx ?_); repeat' (first | refine Abs.goH (Abs.cc hb (Abs.cc hm (Abs.cc hbb (hcl)))) ?_ | with_reducible refine Abs.fork (fun hb => ?_) (fun hb => ?_))
    have hml : m ≤ w.length - o := by omega
    refine Ev.loop (fun k a s' => s' = s ∧ ∃ T i acc, a = ⟨T, 52, []⟩ ∧ T.get 2 = some (.int .u64 ((acc : Nat) : Int)) ∧ T.get 17 = some (.slice (some ⟨bb, o, none⟩) m open_) ∧ T.get 18 = some (.int .i64 (m : Int)) ∧ T.get 19 = some (.int .i64 ((i : Nat) : Int)) ∧ i ≤ m ∧ acc < 18446744073709551616 ∧ numGo ((w.drop o).drop i) i acc = numGo (w.drop o) 0 0 ∧ k = m - i) (k := m)
      ⟨rfl, _, 0, 0, rfl, ?g2, ?g17, ?g18, ?g19, Nat.zero_le _, by decide, rfl, rfl⟩ ?_
    case g2 => simp (disch := first | omega | assumption) only [go_sem, ]; rfl
    case g17 => simp (disch := first | omega | assumption) only [go_sem, ]
    case g18 => simp (disch := first | omega | assumption) only [go_sem, ]
    case g19 => simp (disch := first | omega | assumption) only [go_sem, ]; rfl
    rintro k a s' ⟨rfl, T, i, acc, rfl, g2, g17, g18, g19, hi, hacc, hgo, rfl⟩
    (try first | refine EvO.nx ?_ | refine EvA.nx ?_); repeat' (first | refine Abs.goH (Abs.cc g2 (Abs.cc g17 (Abs.cc g18 (g19)))) ?_ | with_reducible refine Abs.fork (fun hb => ?_) (fun hb => ?_))
    · have him : i < m := by omega
      have hi10 : i < 10 := by omega
      have hlt : o + i < w.length := by omega
      have hd : (w.drop o).drop i = w[o + i]'hlt :: (w.drop o).drop (i + 1) := by
        rw [List.drop_drop, List.drop_drop, List.drop_eq_getElem_cons hlt, Nat.add_assoc]
      rw [hd] at hgo
      have hx : (byteCells w)[o + i]? = some (.int .u8 (((w[o + i]'hlt).toNat : Nat) : Int)) := by
        rw [byteCells_eq, List.getElem?_map, List.getElem?_eq_getElem hlt]
        rfl
      generalize w[o + i]'hlt = x at *
      generalize hR : numGo (w.drop o) 0 0 = R at *
      have hx256 : x.toNat < 256 := x.toNat_lt
      unfold numGo at hgo
      rw [if_neg (by omega)] at hgo
      have e0 : x.toNat &&& 127 = x.toNat % 128 := by rw [show 127 = 2 ^ 7 - 1 by rfl, Nat.and_two_pow_sub_one_eq_mod]
      have e1 : (7 * (i : Int)).toNat = 7 * i := by omega
      have hy : (x.toNat % 128) <<< (7 * i) % 18446744073709551616 < 18446744073709551616 := Nat.mod_lt _ (by decide)
      have hor : acc ||| (x.toNat % 128) <<< (7 * i) % 18446744073709551616 < 18446744073709551616 := Nat.or_lt_two_pow (n := 64) hacc hy
      generalize hxn : x.toNat = xn at *
      (try first | refine EvO.nx ?_ | refine EvA.nx ?_); repeat' (first | refine Abs.goH (Abs.cc g2 (Abs.cc g17 (Abs.cc g18 (Abs.cc g19 (Abs.cc hbb (Abs.cc hx (Abs.cc e0 (e1)))))))) ?_ | with_reducible refine Abs.fork (fun hb => ?_) (fun hb => ?_))
      · rw [if_pos (by omega)] at hgo
        refine ⟨m - (i + 1), by omega, rfl, _, i + 1, _, rfl, ?_, ?_, ?_, ?_, by omega, hor, hgo, rfl⟩
        · simp (disch := first | omega | assumption) only [go_sem, ]
        · simp (disch := first | omega | assumption) only [go_sem, g17]
        · simp (disch := first | omega | assumption) only [go_sem, g18]
        · simp (disch := first | omega | assumption) only [go_sem, Int.natCast_add, Int.natCast_one]
      all_goals
        rw [if_neg (by omega)] at hgo
        first
        | (rw [if_pos (by omega)] at hgo
           rw [← hgo] at h
           exact h)
        | (rw [if_neg (by omega)] at hgo
           rw [← hgo] at h
           exact h)
    · have h0 : numGo (w.drop o) 0 0 = none := by
        rw [← hgo]
        refine numGo_end ?_
        rcases Nat.lt_or_ge m 10 with h1 | h1
        · left
          apply List.eq_nil_of_length_eq_zero
          have : m = n := by
            by_cases hc : (10 : Int) < (n : Int)
            · rw [if_pos hc] at hm; omega
            · rw [if_neg hc] at hm; omega
          rw [List.length_drop]
          omega
        · right; omega
      rw [h0] at h
      exact h
end
end Go.Proofs.YtbakhdgiimjnkaaGreatDoor

