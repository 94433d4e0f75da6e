/-
  Bytes as they lie, and what slices.Clone does, at the evaluator. (Printed out of the text BinEv.)
-/
import Derived.Test.YtpbadpkleiogoaaEvCut
import Derived.Test.YtpbadpkleiogoaaTy
import Derived.Test.YtpbadpkleiogoaaEvSet
set_option linter.unusedVariables false
set_option linter.unusedSimpArgs false
namespace Go.Proofs.Ytpbadpkleiogoaa
open Abs
set_option maxHeartbeats 16000000
set_option maxRecDepth 20000
set_option linter.unusedSimpArgs false
attribute [local irreducible] Abs.Ev Abs.EvF Abs.EvO Abs.EvA Abs.Seq Abs.Blk Abs.Body Abs.Scp Abs.EvG Abs.EvAg Abs.Nx
attribute [local go_sem] Abs.eDelete
attribute [local go_sem] Try.underlying3 Ty.sz3 Ty.by3 Ty.ag3 Ty.ze3 Try.underlying5 Ty.sz5 Ty.by5 Ty.ag5 Ty.ze5 Try.underlying9 Ty.sz9 Ty.by9 Ty.ag9 Ty.ze9 Try.underlying29 Ty.sz29 Ty.by29 Ty.ag29 Ty.ze29 Try.underlying45 Ty.sz45 Ty.by45 Ty.ag45 Ty.ze45
section
variable {Sm : Summ} {Q : Ans → Prop}

/-- bytes to put something behind -/
abbrev BufB (s : St) (v : Value) (l : List UInt8) : Prop := Buf s 5 1 v l.length (byteCells l)
/-- bytes, as they lie -/
def BytesB (s : St) (v : Value) (l : List UInt8) : Prop := (∃ a c, v = .slice a l.length c) ∧ srcCells s.heap 1 v = .ok (l.length, byteCells l)
theorem byteCells_len (l : List UInt8) : (byteCells l).length = l.length := by rw [byteCells_eq, List.length_map]
theorem byteCells_one (l : List UInt8) : (byteCells l).all oneB = true := by
  rw [byteCells_eq, List.all_map, List.all_eq_true]
  intro x _
  rfl
theorem byteCells_append (l m : List UInt8) : byteCells (l ++ m) = byteCells l ++ byteCells m := by simp only [byteCells_eq, List.map_append]
theorem BufB.bytes {s : St} {v : Value} {l : List UInt8} (h : BufB s v l) : BytesB s v l := by
  obtain ⟨h1, a, c, h2⟩ := Buf.src h
  exact ⟨⟨a, c, h2⟩, h1⟩
theorem BytesB.mono {s s' : St} {v : Value} {l : List UInt8} (hk : ∀ b x, s.heap.get b = some x → s'.heap.get b = some x) (h : BytesB s v l) : BytesB s' v l := ⟨h.1, srcCells_mono hk h.2⟩
theorem BytesB.nil (s : St) : BytesB s (.slice none 0 0) [] := ⟨⟨_, _, rfl⟩, rfl⟩
theorem u8_lit0 : aSliceLit Try.prog 5 0 [] = .ok (.cells [] 5 0 false (0, 0), fun n => .slice (some ⟨n, 0, none⟩) 0 0) := lit0 Ty.sz5 Ty.ze5 rfl
theorem u8_lit1 (v : Int) : aSliceLit Try.prog 5 1 [(0, .int .u8 v)] = .ok (.cells [.int .u8 v] 5 0 false (0, 0), fun n => .slice (some ⟨n, 0, none⟩) 1 1) := lit1 Ty.sz5 Ty.ze5 rfl rfl (by decide)
/-- nothing put behind bytes -/
theorem EvO.append0B {st : St} {xt : List TypeId} {v x : Value} {n : Nat} {nw : List Value} {K : Value → St → Prop} (hv : ∃ a c, v = .slice a n c) (hx : appSrc Try.prog st.heap 1 (cellsOf (.int .u8 0)) xt x = .ok (0, nw)) (h1 : n ≤ 140737488355200) (h : K v st) :
    EvO (fun _ k => aAppend Try.prog st (45 :: xt) v x fun v s => k v [] s) K := by
  obtain ⟨a, c, rfl⟩ := hv
  exact EvO.mk' (fun ih k => append_zero Try.underlying45 Ty.sz5 Ty.by5 Ty.ze5 rfl hx (by omega) (by omega) _) h
theorem EvO.appendO {st : St} {xt : List TypeId} {v x : Value} {l m : List UInt8} {K : Value → St → Prop} (hwf : st.wf) (hv : BufB st v l) (hx : appSrc Try.prog st.heap 1 (cellsOf (.int .u8 0)) xt x = .ok (m.length, byteCells m)) (hm : m ≠ []) (h1 : l.length + m.length ≤ 140737488355200)
    (h : ∀ st' : St, st'.heap.get st.next = some (.cells (byteCells (l ++ m)) 5 1 true (0, 0)) → st'.next = st.next + 1 → st'.wf → (∀ b y, st.heap.get b = some y → ¬ owns v b → st'.heap.get b = some y) → K (.slice (some ⟨st.next, 0, none⟩) (l ++ m).length open_) st') :
    EvO (fun _ k => aAppend Try.prog st (45 :: xt) v x fun v s => k v [] s) K := by
  have hm0 : 0 < m.length := by cases m with
    | nil => exact absurd rfl hm
    | cons _ _ => simp
  refine EvO.append hwf Try.underlying45 Ty.sz5 Ty.by5 Ty.ze5 rfl (by decide) hv (by unfold open_; omega) hx (by rw [byteCells_len, Nat.mul_one]) (byteCells_one m) hm0 (by omega) (by omega) fun st' k1 k2 k3 k4 => ?_
  rw [← List.length_append]
  exact h st' (by rw [byteCells_append]; exact k1) k2 k3 k4
/-- bytes that are put behind one another -/
inductive TxtB (s : St) (lo : Nat) : Value → List UInt8 → Prop where
  | nil : TxtB s lo (.slice none 0 0) []
  | zero {b : Nat} (h : s.heap.get b = some (.cells [] 5 0 false (0, 0))) : TxtB s lo (.slice (some ⟨b, 0, none⟩) 0 0) []
  | own {b : Nat} {l : List UInt8} (h : s.heap.get b = some (.cells (byteCells l) 5 1 true (0, 0))) (hl : l ≠ []) (hb : lo ≤ b) : TxtB s lo (.slice (some ⟨b, 0, none⟩) l.length open_) l
theorem TxtB.buf {s : St} {lo : Nat} {v : Value} {l : List UInt8} (h : TxtB s lo v l) : BufB s v l := by
  cases h with
  | nil => exact .nil
  | zero h => exact .full (src_cells h rfl)
  | own h hl hb => exact .open_ h (by rw [byteCells_len, Nat.mul_one])
attribute [local go_sem] Try.underlying45 u8_lit0
/-- the library's copy -/
theorem clone_ev (hs : Sm 42 = none) {s : St} (hwf : s.wf) {v : Value} {l : List UInt8} (hv : BytesB s v l) (hl : l.length ≤ 140737488351232)
    (h : ∀ v' s', Keep s s' → TxtB s' s.next v' l → (∀ c, inBlk v' c → s.next ≤ c) → Q (.val v' s')) :
    Ev Try.prog Sm (.inv (.fn (.func 42) #[]) [v] s) Q := by
  obtain ⟨⟨a, c, rfl⟩, hsrc⟩ := hv
  refine Ev.func hs Try.func42 rfl (m := 8) rfl ?_
  simp only [Array.toList_empty, List.append_nil, ofList_cons, ofList_nil]
  cases a with
  | none =>
    (try first | refine EvO.nx ?_ | refine EvA.nx ?_); repeat' (first | refine Abs.go ?_ | with_reducible refine Abs.fork (fun hb => ?_) (fun hb => ?_))
    have e : (0, ([] : List Value)) = (l.length, byteCells l) := Rs.ok.inj hsrc
    have e1 : l = [] := List.eq_nil_of_length_eq_zero (congrArg Prod.fst e).symm
    subst e1
    exact h _ _ (Keep.refl hwf) .nil fun c hc => by obtain ⟨_, _, _, e⟩ := hc; cases e
  | some a =>
    (try first | refine EvO.nx ?_ | refine EvA.nx ?_); repeat' (first | refine Abs.go ?_ | with_reducible refine Abs.fork (fun hb => ?_) (fun hb => ?_))
    have hk := (Keep.refl hwf).new (.cells [] 5 0 false (0, 0))
    have hsrc2 := srcCells_mono hk.old hsrc
    have hb0 : TxtB ⟨s.heap.set s.next (.cells [] 5 0 false (0, 0)), s.next + 1⟩ s.next (.slice (some ⟨s.next, 0, none⟩) 0 0) [] := .zero (get_same _ _ _)
    by_cases hl0 : l = []
    · subst hl0
      refine EvO.append0B ⟨_, _, rfl⟩ ((appSrc_slice Try.underlying45).trans hsrc2) (by decide) ?_
      (try first | refine EvO.nx ?_ | refine EvA.nx ?_); repeat' (first | refine Abs.go ?_ | with_reducible refine Abs.fork (fun hb => ?_) (fun hb => ?_))
      exact h _ _ hk hb0 fun c hc => by obtain ⟨_, _, _, e⟩ := hc; cases e; exact Nat.le_refl _
    · refine EvO.appendO hk.wf hb0.buf ((appSrc_slice Try.underlying45).trans hsrc2) hl0 (by simp; omega) fun st' k1 k3 k4 k5 => ?_
      (try first | refine EvO.nx ?_ | refine EvA.nx ?_); repeat' (first | refine Abs.go ?_ | with_reducible refine Abs.fork (fun hb => ?_) (fun hb => ?_))
      refine h _ _ (hk.append k3 k4 k5 hwf (by rintro b ⟨n, e⟩; cases e)) ?_ fun c hc => by obtain ⟨_, _, _, e⟩ := hc; cases e; exact Nat.le_succ _
      rw [List.nil_append] at k1
      exact .own k1 hl0 (Nat.le_succ _)
theorem TxtB.bytes {s : St} {lo : Nat} {v : Value} {l : List UInt8} (h : TxtB s lo v l) : BytesB s v l := h.buf.bytes
theorem TxtB.mono {s s' : St} {lo lo' : Nat} {v : Value} {l : List UInt8} (hk : ∀ b x, s.heap.get b = some x → s'.heap.get b = some x) (hl : lo' ≤ lo) (h : TxtB s lo v l) : TxtB s' lo' v l := by
  cases h with
  | nil => exact .nil
  | zero h => exact .zero (hk _ _ h)
  | own h h0 hb => exact .own (hk _ _ h) h0 (Nat.le_trans hl hb)
end
end Go.Proofs.Ytpbadpkleiogoaa
