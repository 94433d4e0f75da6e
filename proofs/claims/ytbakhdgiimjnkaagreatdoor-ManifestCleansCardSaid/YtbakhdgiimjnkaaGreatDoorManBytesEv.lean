/-
  manifest: what its laws ask of versions and files, at the evaluator.
-/
import Derived.Test.YtbakhdgiimjnkaaGreatDoorManEnc
import Derived.Test.YtbakhdgiimjnkaaGreatDoorEvSet
namespace Go.Proofs.YtbakhdgiimjnkaaGreatDoor
open Abs
set_option maxHeartbeats 16000000
set_option maxRecDepth 20000
set_option linter.unusedSimpArgs false
attribute [local irreducible] Abs.Ev Abs.EvF Abs.EvO Abs.EvA Abs.Seq Abs.Blk Abs.Body Abs.Scp Abs.EvG Abs.EvAg Abs.Nx
attribute [local go_sem] Abs.eDelete
attribute [local go_sem] Tryz.underlying3 Ty.sz3 Ty.by3 Ty.ag3 Ty.ze3 Tryz.underlying4 Ty.sz4 Ty.by4 Ty.ag4 Ty.ze4 Tryz.underlying5 Ty.sz5 Ty.by5 Ty.ag5 Ty.ze5 Tryz.underlying9 Ty.sz9 Ty.by9 Ty.ag9 Ty.ze9 Tryz.underlying23 Ty.sz23 Ty.by23 Ty.ag23 Ty.ze23 Tryz.underlying24 Ty.sz24 Ty.by24 Ty.ag24 Ty.ze24 Tryz.underlying26 Ty.sz26 Ty.by26 Ty.ag26 Ty.ze26 Tryz.underlying28 Ty.sz28 Ty.by28 Ty.ag28 Ty.ze28 Tryz.underlying29 Ty.sz29 Ty.by29 Ty.ag29 Ty.ze29 Tryz.underlying41 Ty.sz41 Ty.by41 Ty.ag41 Ty.ze41
section
variable {Sm : Summ}
theorem Abs.Ev.forget {P : Program} {fn : FuncId} {rd : Option Nat} {Q : Ans → Prop} {c : Code} {T : Tr Value} {n : Nat} {s : St} (G : Tr Value → Prop) (hG : G T) (h : ∀ T, G T → Ev P Sm (.code fn rd c ⟨T, n, []⟩ s) Q) : Ev P Sm (.code fn rd c ⟨T, n, []⟩ s) Q := h T hG
theorem wf_set {s : St} (h : s.wf) {b : Nat} {x : AObj} (hb : s.heap.get b = some x) (y : AObj) : (⟨s.heap.set b y, s.next⟩ : St).wf := fun c z e => by
  rcases Tr.get_set e with ⟨rfl, _⟩ | ⟨_, e⟩
  · exact h _ _ hb
  · exact h c z e
theorem cut_pre {L : List UInt8} {n : Nat} (h : n ≤ L.length) : cutN (byteCells L) 0 n = some (byteCells (L.take n)) := by
  rw [cutN_eq, if_pos (by rw [byteCells_len]; omega), List.drop_zero, byteCells_eq, byteCells_eq, List.map_take]
theorem decV_seq (l : List UInt8) : (decV l).1.seq < 18446744073709551616 := (rdUint_le _).1
theorem decV_files (l : List UInt8) : (decV l).1.files.length ≤ 1000 := by
  show (decFs _ _).1.length ≤ 1000
  rw [decFs_length]
  exact (rdInt_le 1000 _).1
theorem encV_pos (v : MV) : encV v ≠ [] := by
  intro h
  have := congrArg List.length h
  unfold encV at this
  have h2 := uintB_pos v.files.length
  rw [List.length_append] at this
  simp only [List.length_nil] at this
  omega
theorem decOk_enc {v : MV} (h : GoodV v) (hs : v.seq < 18446744073709551616) : DecOk (encV v) ∧ (decV (encV v)).1 = v := by
  have := decV_enc h hs
  unfold DecOk
  rw [this]
  exact ⟨⟨rfl, rfl, h, rfl⟩, rfl⟩
theorem filesC_one : ∀ l : List MF, (filesC l).all oneB = true
  | [] => rfl
  | f :: l => by
    show (fileC f ++ filesC l).all oneB = true
    rw [List.all_append, filesC_one l]
    rfl
theorem FilesAt.veq {s : St} {v : Value} {l : List MF} (h : FilesAt s v l) : vEq2 v v = true := by
  obtain ⟨a, c, rfl⟩ := h.is
  have h2 := h.src
  cases a with
  | none => exact vEq2_nils _ _
  | some a =>
    obtain ⟨b, o, sp⟩ := a
    cases sp with
    | some _ => cases h2
    | none => exact vEq2_slice _ _ _ _
theorem Abs.Vec.open {s : St} {e : TypeId} {sz b o n : Nat} {cs : List Value} (h : Vec s e sz (.slice (some ⟨b, o, none⟩) n open_) n cs) (hn : n < open_) : ∃ l, s.heap.get b = some (.cells l e sz true (0, 0)) ∧ o % sz = 0 ∧ o + n * sz ≤ l.length ∧ (l.drop o).take (n * sz) = cs := by
  cases h with
  | full h => exact absurd hn (Nat.lt_irrefl _)
  | room hb ho hl hc => exact ⟨_, hb, ho, hl.1, hc⟩
theorem file9_build : aBuild Tryz.prog 41 [(0, .int .i64 9)] = .ok (.agg ⟨fileC ⟨9, 0, [], []⟩⟩) := by kernel_rfl
theorem file9_lit : aSliceLit Tryz.prog 41 1 [(0, .agg ⟨[.int .i64 9, .int .i64 0, .string ⟨#[]⟩, .string ⟨#[]⟩]⟩)] = .ok (.cells (fileC ⟨9, 0, [], []⟩) 41 0 false (0, 0), fun n => .slice (some ⟨n, 0, none⟩) 1 1) := by kernel_rfl
theorem file_lit0 : aSliceLit Tryz.prog 41 0 [] = .ok (.cells [] 41 0 false (0, 0), fun n => .slice (some ⟨n, 0, none⟩) 0 0) := by kernel_rfl
end
end Go.Proofs.YtbakhdgiimjnkaaGreatDoor
