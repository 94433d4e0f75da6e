/-
  Over the given program, the statement RetryPlays of chapter 20 holds: for every input that the row speaks of, the law returns true and leaves its arguments as they were. No condition beyond the given row's own.
-/
import Derived.Test.YtpbadpkleiogoaaRows
import Derived.Test.YtpbadpkleiogoaaRetryPlays
import Derived.Test.YtpbadpkleiogoaaRead
namespace Go.Proofs.Ytpbadpkleiogoaa.plays
open Go.ChangeShapes Go.WideShapes Go.ChangeAt Go.RowKit

theorem own : ownKnob Try.prog.godebug = none := by kernel_rfl
theorem laidOut : laidOutB Try.prog = true := by kernel_rfl
theorem cellsAct : Try.prog.cellsOf 35 = 3 := by kernel_rfl
theorem cells64 : Try.prog.cellsOf 2 = 1 := by kernel_rfl
theorem cellsInt : Try.prog.cellsOf 3 = 1 := by kernel_rfl
theorem cellsU64 : Try.prog.cellsOf 29 = 1 := by kernel_rfl

def ActRd (cs : List Value) (a : RAct) : Prop :=
  cs = [.int .i64 a.op, .int .i64 a.now, .int .u64 a.r] ∧ (-9223372036854775808 ≤ a.now ∧ a.now ≤ 9223372036854775807) ∧ (0 ≤ a.r ∧ a.r < 18446744073709551616)

theorem act_rd {H : Type} {enc : TypeId × Value → H} {w : World} {base : Nat} {spare : Nat → Bool} {held : Bool} (n : Nat) (cs : List Value) (y : DataW H × List MemPlace)
    (h : DataW.trod enc Try.prog w base spare held n 35 cs = some y) : ∃ a, ActRd cs a := by
  obtain ⟨hlen, hf⟩ := field_rd Try.underlying35 h
  obtain ⟨c0, c1, c2, rfl⟩ := len3 (hlen.trans cellsAct)
  obtain ⟨n0, y0, h0⟩ := hf 0 _ rfl
  obtain ⟨n1, y1, h1⟩ := hf 1 _ rfl
  obtain ⟨n2, y2, h2⟩ := hf 2 _ rfl
  change DataW.trod enc Try.prog w base spare held n0 3 (([c0, c1, c2].drop 0).take (Try.prog.cellsOf 3)) = _ at h0
  change DataW.trod enc Try.prog w base spare held n1 2 (([c0, c1, c2].drop 1).take (Try.prog.cellsOf 2)) = _ at h1
  change DataW.trod enc Try.prog w base spare held n2 29 (([c0, c1, c2].drop 2).take (Try.prog.cellsOf 29)) = _ at h2
  rw [cellsInt] at h0
  rw [cells64] at h1
  rw [cellsU64] at h2
  obtain ⟨x0, e0, _, w0⟩ := DataW.trod_int Try.underlying3 h0
  obtain ⟨x1, e1, _, w1⟩ := DataW.trod_int Try.underlying2 h1
  obtain ⟨x2, e2, _, w2⟩ := DataW.trod_int Try.underlying29 h2
  simp at e0 e1 e2
  subst e0 e1 e2
  exact ⟨⟨x0, x1, x2⟩, rfl, bd_i64 w1, bd_u64 w2⟩

set_option maxRecDepth 100000 in
set_option linter.unusedVariables false in
theorem lifted (os : Os) (started : os.Started) (H : Type) (enc : TypeId × Value → H) :
    ReturnsInHanded {} Try.checked os 5 .any (Rows.retryPlaysSpec.pre6 enc Try.prog Try.f5 Rows.retryPlaysRow.domain false) (Rows.retryPlaysSpec.post enc Try.prog Try.f5 false true false false) := by
  refine law_lifted (C := Try.checked) own started (by kernel_rfl) Try.func5
    (ChangeSpec.witness6 (enc := enc) (C := Try.checked) false ⟨#[], #[.int .i64 0, .int .i64 0, .slice none 0 0, .int .i64 0], []⟩ 8 (by kernel_rfl) (by kernel_rfl) (by kernel_rfl) (by kernel_rfl))
    laidOut (by decide +kernel) rfl (by kernel_rfl) Try.underlying4 ?_ ?_
  · intro ds hl
    rw [Try.params5] at hl
    obtain ⟨d0, d1, d2, d3, rfl⟩ := len4 hl
    exact ⟨rfl, rfl, rfl⟩
  intro W base args ds p hval hA _ _
  rw [Try.params5] at hA hval
  obtain ⟨v0, vs0, d0, ds0, p0, q0, hargs, rfl, rfl, h0, r0⟩ := trodAll_cons hA
  obtain ⟨v1, vs1, d1, ds1, p1, q1, rfl, rfl, rfl, h1, r1⟩ := trodAll_cons r0
  obtain ⟨v2, vs2, d2, ds2, p2, q2, rfl, rfl, rfl, h2, r2⟩ := trodAll_cons r1
  obtain ⟨v3, vs3, d3, ds3, p3, q3, rfl, rfl, rfl, h3, r3⟩ := trodAll_cons r2
  obtain ⟨rfl, rfl, rfl⟩ := trodAll_nil r3
  obtain rfl : args = #[v0, v1, v2, v3] := by cases args; simp_all
  obtain ⟨a0, rfl, rfl, rfl, w0⟩ := open_int Try.underlying2 (hval 0 2 v0 rfl rfl) h0
  obtain ⟨a1, rfl, rfl, rfl, w1⟩ := open_int Try.underlying2 (hval 1 2 v1 rfl rfl) h1
  obtain ⟨a3, rfl, rfl, rfl, w3⟩ := open_int Try.underlying2 (hval 3 2 v3 rfl rfl) h3
  obtain ⟨A0, len0, cap0, rfl⟩ := okWide_slice Try.underlying33 (hval 2 33 v2 rfl rfl)
  obtain ⟨fuel, hf⟩ := h2
  obtain ⟨A, len, cap, l, hcs, hl, _, _, hrd⟩ := open_slice_rd (R := ActRd) Try.underlying33 cellsAct (by omega) act_rd hf
  simp [Value.cells] at hcs
  obtain ⟨rfl, rfl, rfl⟩ := hcs
  refine plays_all a0 a1 a3 A0 len0 cap0 l hl W fun k hk => ?_
  obtain ⟨b, off, cs, hA, hb, _, hc, rfl, hx, hy⟩ := hrd k hk
  exact ⟨b, off, hA, hb, hc 0 (by omega), hc 1 (by omega), hc 2 (by omega), hx, hy⟩

theorem over : Rows.retryPlaysRow.holds Try.pinned (OpenSpec.ofChange Rows.retryPlaysSpec) :=
  OpenClaim.holds_of_wide 5 Try.f5 rfl rfl rfl rfl rfl rfl rfl ⟨rfl, rfl, rfl, rfl, rfl⟩ rfl rfl rfl rfl rfl (by kernel_rfl) Try.func5 (by kernel_rfl)
    (of_decide_eq_true (by kernel_rfl)) (by unfold Func.isWrapper; first | (rw [if_pos (by decide +kernel)]; kernel_rfl) | (rw [if_neg (by decide +kernel)]; exact ⟨rfl, rfl⟩))
    (fun os started H enc _ => lifted os started H enc)

theorem proved : Rows.RetryPlaysSaid := over
end Go.Proofs.Ytpbadpkleiogoaa.plays
