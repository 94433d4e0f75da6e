/-
  Bytes and strings in a walk: []byte(s), string(b). No program in sight.
-/
import Derived.Test.YtpbadpkleiogoaaOwn
import Derived.Lib.ConvBytes
import Derived.Laws.IdiomStrings
namespace Go.Proofs.Ytpbadpkleiogoaa
open Go.RowKit

/-- bytes as cells -/
def bcells (bs : List UInt8) : List Value := bs.map fun b => .int .u8 b.toNat
theorem bcells_one (bs : List UInt8) : ∀ u ∈ bcells bs, u.oneCell' = true := by
  intro u hu
  simp only [bcells, List.mem_map] at hu
  obtain ⟨b, _, rfl⟩ := hu
  rfl
theorem bcells_len (bs : List UInt8) : (bcells bs).length = bs.length := by simp [bcells]

section
variable {P : Program} {w : World}
/-- string(b) -/
theorem run_string_of {src dst e : TypeId} (hs : P.underlying src = some (.slice e)) (he : P.underlying e = some (.int .u8)) (hd : P.underlying dst = some .string) {v : Value} {n : Nat} {bs : List UInt8} (h : Sl w e 1 v n (bcells bs)) :
    (convert src dst v).run P w = .ok (.string ⟨bs.toArray⟩) w := by
  have hn : n = bs.length := by have := h.1; simpa [bcells] using this.symm
  subst hn
  rcases h.2 with ⟨rfl, h0⟩ | ⟨g, off, cap, cur, fz, rfl, hb, hz, h3, h4, h5, h6⟩
  · obtain rfl : bs = [] := List.eq_nil_of_length_eq_zero h0
    rw [run_convert_bytes_nil w src e hs he 0 0 dst hd]
    rfl
  · refine run_convert_bytes_back w src dst e ⟨g, off, none⟩ cap bs hs he hd fun j hj => ?_
    rw [Addr.add_lit, World.cell?, hb]
    have := h6 j (by rw [bcells_len]; exact hj)
    simp only [bcells, List.getElem?_map, List.getElem?_eq_getElem hj, Option.map_some] at this
    simp [this]

/-- what []byte(s) leaves -/
def BytesOf (w : World) (e : TypeId) (bs : List UInt8) (v : Value) (w' : World) : Prop :=
  Sl w' e 1 v bs.length (bcells bs) ∧ Mod (fun _ => False) w w' ∧ v.ownBlock = some w.heap.size ∧ w'.heap.size = w.heap.size + 1

theorem run_bytes_of {src dst e : TypeId} (hs : P.underlying src = some .string) (hd : P.underlying dst = some (.slice e)) (he : P.underlying e = some (.int .u8)) (s : ByteArray) (hl : s.size ≤ maxLen) :
    ∃ v w', (convert src dst (.string s)).run P w = .ok v w' ∧ BytesOf w e s.data.toList v w' := by
  refine ⟨_, _, Lib.run_convert_string_bytes w src dst e s hs hd he, ⟨by simp [bcells], .inr ⟨w.heap.size, 0, grownCap w s.size 0 e, Lib.bytesCells w e s, _, ?_, Lib.bytesWorld_at_new w e s, ?_, grownCap_ge w s.size 0 e, grownCap_le_maxLen w s.size 0 e hl, ?_, fun j hj => ?_⟩⟩, ?_, rfl, Lib.bytesWorld_size w e s⟩
  · rw [Array.length_toList]
    rfl
  · intro j hj h
    simp only at h
    omega
  · have h1 := grownCap_ge w s.size 0 e
    have h2 : (Lib.bytesCells w e s).size = s.size + (grownCap w s.size 0 e - s.size) := by
      rw [Lib.bytesCells, Array.size_append, Array.size_map, Array.size_replicate]
      rfl
    rw [h2]
    omega
  · rw [Nat.zero_add, Lib.bytesCells]
    rw [bcells_len] at hj
    rw [Array.getElem?_append_left (by simpa using hj)]
    simp [bcells]
  · exact ⟨rfl, rfl, rfl, by rw [Lib.bytesWorld_size]; omega, fun k hk _ => Lib.bytesWorld_at_old w e s k hk⟩

theorem wpList_bytes_of {ops : Array Oper} {rest : List Oper} {o : Oper} {a : Act} {Q : Exit → Act → World → Prop} (hgd : o.guard = none) (y : Operand) (src dst : TypeId) (ho : o.op = .convert src dst y)
    (e : TypeId) (hs : P.underlying src = some .string) (hd : P.underlying dst = some (.slice e)) (he : P.underlying e = some (.int .u8)) (s : ByteArray) (hy : a.eval y = .string s) (hl : s.size ≤ maxLen)
    (h : ∀ v w', BytesOf w e s.data.toList v w' → wpList P ops Q rest (a.put o.dst v) w') : wpList P ops Q (o :: rest) a w := by
  refine wpList_plain hgd fun K hK => ?_
  obtain ⟨v, w', hr, hb⟩ := run_bytes_of (w := w) hs hd he s hl
  unfold Oper.wp execOp
  simp only [ho, Sem.run_bind, Sem.run_pure, hy, hr, Result.andThen_ok]
  exact hK _ _ (h v w' hb)
end
end Go.Proofs.Ytpbadpkleiogoaa
