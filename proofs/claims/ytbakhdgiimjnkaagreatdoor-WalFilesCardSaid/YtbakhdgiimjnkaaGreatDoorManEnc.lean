/-
  manifest, versions: what bytes.Equal, Encode and Decode do, at the evaluator.
-/
import Derived.Test.YtbakhdgiimjnkaaGreatDoorManEv
import Derived.Test.YtbakhdgiimjnkaaGreatDoorBnA
import Derived.Test.YtbakhdgiimjnkaaGreatDoorEvSet
set_option linter.unusedVariables false
set_option linter.unusedSimpArgs false
namespace Go.Proofs.YtbakhdgiimjnkaaGreatDoor
open Abs
set_option maxHeartbeats 16000000
set_option maxRecDepth 20000
set_option linter.unusedSimpArgs false
attribute [local irreducible] Abs.Ev Abs.EvF Abs.EvO Abs.EvA Abs.Seq Abs.Blk Abs.Body Abs.Scp Abs.EvG Abs.EvAg Abs.Nx
attribute [local go_sem] Abs.eDelete
attribute [local go_sem] Tryz.underlying3 Ty.sz3 Ty.by3 Ty.ag3 Ty.ze3 Tryz.underlying4 Ty.sz4 Ty.by4 Ty.ag4 Ty.ze4 Tryz.underlying5 Ty.sz5 Ty.by5 Ty.ag5 Ty.ze5 Tryz.underlying9 Ty.sz9 Ty.by9 Ty.ag9 Ty.ze9 Tryz.underlying23 Ty.sz23 Ty.by23 Ty.ag23 Ty.ze23 Tryz.underlying24 Ty.sz24 Ty.by24 Ty.ag24 Ty.ze24 Tryz.underlying26 Ty.sz26 Ty.by26 Ty.ag26 Ty.ze26 Tryz.underlying28 Ty.sz28 Ty.by28 Ty.ag28 Ty.ze28 Tryz.underlying29 Ty.sz29 Ty.by29 Ty.ag29 Ty.ze29 Tryz.underlying41 Ty.sz41 Ty.by41 Ty.ag41 Ty.ze41 Tryz.underlying83 Ty.sz83 Ty.by83 Ty.ag83 Ty.ze83 Tryz.underlying124 Ty.sz124 Ty.by124 Ty.ag124 Ty.ze124 Tryz.underlying127 Ty.sz127 Ty.by127 Ty.ag127 Ty.ze127
section
variable {Sm : Summ} {Q : Ans → Prop}
/-- no summary stands for bin's functions -/
structure NoBin (Sm : Summ) : Prop where
  uint : Sm 47 = none
  text : Sm 48 = none
  clone : Sm 80 = none
  read : Sm 49 = none
  num : Sm 83 = none
  int : Sm 50 = none
  ruint : Sm 52 = none
  rtext : Sm 51 = none
  fin : Sm 53 = none
  good : Sm 46 = none
  equal : Sm 54 = none
/-- bytes, in a block of cells -/
inductive BytesC (s : St) : Value → List UInt8 → Prop where
  | nil : BytesC s (.slice none 0 0) []
  | part {b o n c : Nat} {w : List Value} {e : TypeId} {sz : Nat} {opn : Bool} {fz : Nat × Nat} {l : List UInt8} (hb : s.heap.get b = some (.cells w e sz opn fz)) (hn : n = l.length) (hl : cutN w o n = some (byteCells l)) : BytesC s (.slice (some ⟨b, o, none⟩) n c) l
theorem BytesC.mono {s s' : St} {v : Value} {l : List UInt8} (hk : ∀ b x, s.heap.get b = some x → s'.heap.get b = some x) (h : BytesC s v l) : BytesC s' v l := by
  cases h with
  | nil => exact .nil
  | part hb hn hl => exact .part (hk _ _ hb) hn hl
theorem BytesC.bytes {s : St} {v : Value} {l : List UInt8} (h : BytesC s v l) : BytesB s v l := by
  cases h with
  | nil => exact .nil _
  | @part b o n c w e sz opn fz l hb hn hl =>
    subst hn
    refine ⟨⟨_, _, rfl⟩, ?_⟩
    show (match s.heap.get b with
      | some (.cells l' _ _ _ _) => (Rs.of 75 (cutN l' o (l.length * 1))).bind fun cs => Rs.ok (l.length, cs)
      | some (.const l' _) => (Rs.of 75 (cutN l' o (l.length * 1))).bind fun cs => Rs.ok (l.length, cs)
      | _ => .no 75 "") = _
    rw [hb, Nat.mul_one]
    show (Rs.of 75 (cutN w o l.length)).bind _ = _
    rw [hl]
    rfl
theorem RdAt.mono {s s' : St} {b : Nat} {r : Rd} (hk : ∀ c x, s.heap.get c = some x → s'.heap.get c = some x) (h : RdAt s b r) : RdAt s' b r := by
  obtain ⟨⟨v, h1, h2⟩, h3⟩ := h
  exact ⟨⟨v, hk _ _ h1, h2.mono hk⟩, h3⟩
theorem RdB.but {s s' : St} {e : TypeId} {sz : Nat} {v : Value} {l : List UInt8} (he : e ≠ 5) (hk : SameBut e sz s s') (h : RdB s v l) : RdB s' v l := by
  cases h with
  | nil => exact .nil
  | zero h => exact .zero (hk _ _ h (by simp))
  | part hb ho => exact .part (hk _ _ hb (by intro l e; injection e with _ e; exact he e.symm)) ho
theorem RdAt.but {s s' : St} {e : TypeId} {sz : Nat} {b : Nat} {r : Rd} (he : e ≠ 5) (hk : SameBut e sz s s') (h : RdAt s b r) : RdAt s' b r := by
  obtain ⟨⟨v, h1, h2⟩, h3⟩ := h
  exact ⟨⟨v, hk _ _ h1 (by simp), h2.but he hk⟩, h3⟩
theorem Abs.Own.files {s : St} {lo n : Nat} {v : Value} {l : List MF} (h : Own s lo 41 4 v n (filesC l)) (hn : l.length = n) : FilesAt s v l := by
  subst hn
  exact ⟨h.vec.src.2, h.vec.src.1⟩
theorem cut4 (a b c d : Value) : cutN [a, b, c, d] 0 4 = some [a, b, c, d] := rfl
theorem ver_zero : aBuild Tryz.prog 26 [] = .ok (.agg ⟨[.slice none 0 0, .int .i64 0, .int .u64 0, .int .i64 0]⟩) := by kernel_rfl
theorem file_build (a b : Int) (c d : List UInt8) : aBuild Tryz.prog 41 [(0, .int .i64 a), (1, .int .i64 b), (2, .string ⟨⟨c⟩⟩), (3, .string ⟨⟨d⟩⟩)] = .ok (.agg ⟨fileC ⟨a, b, c, d⟩⟩) := by kernel_rfl
theorem file_lit (f : MF) : aSliceLit Tryz.prog 41 1 [(0, .agg ⟨fileC f⟩)] = .ok (.cells (fileC f) 41 0 false (0, 0), fun n => .slice (some ⟨n, 0, none⟩) 1 1) := by kernel_rfl
attribute [local go_sem] Abs.pBuild file_build file_lit List.set_cons_zero List.set_cons_succ Ty.ze26 ver_zero cut4
end
end Go.Proofs.YtbakhdgiimjnkaaGreatDoor
