/-
  The evaluator's summary of bytes.Index serves, by the kit's contract.
-/
import Derived.Test.YthidnkhhndbidaaGreatDoorAbsE
import Derived.Test.YthidnkhhndbidaaGreatDoorAbsArgs
import Derived.Test.YthidnkhhndbidaaGreatDoorAbsSum
import Derived.Test.YthidnkhhndbidaaGreatDoorSumIdxDef
import Derived.Test.YthidnkhhndbidaaGreatDoorCut
import Derived.Lib.Index
import Derived.Lib.Bytes
import Derived.Deep.Draws
namespace Go.Proofs.YthidnkhhndbidaaGreatDoor.Abs
section
set_option linter.unusedVariables false
variable {P : Program} {φ ψ : Phi} {w w' : World}
theorem nats8_some : ∀ {l : List Value} {xs : List Nat}, nats8 l = some xs → l = xs.map (fun n => Value.int .u8 (Int.ofNat n)) ∧ ∀ x ∈ xs, x < 256
  | [], xs, h => by cases h; exact ⟨rfl, fun x hx => by cases hx⟩
  | v :: l, xs, h => by
    have h' : (onByte v fun b => Option.rec none (fun l => some (b :: l)) (nats8 l)) = some xs := h
    unfold onByte at h'
    split at h'
    · rename_i b
      rw [ifb_eq] at h'
      split at h'
      · rename_i hb
        rw [natK_eq] at h'
        cases hx : nats8 l with
        | none => rw [hx] at h'; cases h'
        | some ys =>
          rw [hx] at h'
          cases h'
          obtain ⟨h1, h2⟩ := nats8_some hx
          refine ⟨by rw [h1]; rfl, fun x hx => ?_⟩
          rcases List.mem_cons.1 hx with rfl | hx
          · exact of_decide_eq_true (by simpa [Nat.blt_eq] using hb)
          · exact h2 x hx
      · cases h'
    · cases h'
def u8l (l : List Nat) : List UInt8 := l.map UInt8.ofNat
theorem u8_ofNat_beq {a b : Nat} (ha : a < 256) (hb : b < 256) : (UInt8.ofNat a == UInt8.ofNat b) = Nat.beq a b := by
  by_cases h : a = b
  · subst h; simp
  · have : UInt8.ofNat a ≠ UInt8.ofNat b := fun e => h (by
      have := congrArg UInt8.toNat e
      simp at this
      omega)
    have hb : Nat.beq a b = false := by
      cases hb : Nat.beq a b with
      | true => exact absurd (Nat.eq_of_beq_eq_true hb) h
      | false => rfl
    rw [hb]
    simpa using this
theorem preN_eq : ∀ {y x : List Nat}, (∀ a ∈ y, a < 256) → (∀ a ∈ x, a < 256) → preN y x = (u8l y).isPrefixOf (u8l x)
  | [], x, _, _ => by cases x <;> rfl
  | a :: y, [], _, _ => rfl
  | a :: y, b :: x, hy, hx => by
    have e : preN (a :: y) (b :: x) = ifb (Nat.beq a b) (preN y x) false := rfl
    rw [e, ifb_eq, preN_eq (fun c hc => hy c (List.mem_cons_of_mem _ hc)) (fun c hc => hx c (List.mem_cons_of_mem _ hc))]
    show _ = List.isPrefixOf (UInt8.ofNat a :: u8l y) (UInt8.ofNat b :: u8l x)
    rw [List.isPrefixOf, u8_ofNat_beq (hy a List.mem_cons_self) (hx b List.mem_cons_self)]
    cases Nat.beq a b <;> simp
theorem findN_eq {y : List Nat} (hy : ∀ a ∈ y, a < 256) : ∀ {x : List Nat} (i : Nat), (∀ a ∈ x, a < 256) → findN y x i = if Lib.index (u8l x) (u8l y) = -1 then none else some (i + (Lib.index (u8l x) (u8l y)).toNat)
  | [], i, _ => by
    show ifb (preN y []) (some i) none = _
    cases y with
    | nil => rfl
    | cons a y => rfl
  | b :: x, i, hx => by
    show ifb (preN y (b :: x)) (some i) (findN y x (i + 1)) = _
    rw [preN_eq hy hx, ifb_eq, findN_eq hy (i + 1) fun a ha => hx a (List.mem_cons_of_mem _ ha)]
    have ei : Lib.index (UInt8.ofNat b :: u8l x) (u8l y) = if (u8l y).isPrefixOf (UInt8.ofNat b :: u8l x) = true then 0 else if (Lib.index (u8l x) (u8l y) == -1) = true then -1 else Lib.index (u8l x) (u8l y) + 1 := rfl
    have e : u8l (b :: x) = UInt8.ofNat b :: u8l x := rfl
    rw [e, ei]
    have hge := Lib.index_ge (u8l x) (u8l y)
    generalize Lib.index (u8l x) (u8l y) = r at *
    split
    · rw [if_neg (by decide)]; simp
    · by_cases hr : r = -1
      · subst hr; rfl
      · have e3 : (if (r == -1) = true then (-1 : Int) else r + 1) = r + 1 := if_neg (by simpa using hr)
        rw [if_neg hr, e3, if_neg (by omega)]
        congr 1
        omega
theorem add_plain (b o i : Nat) : (⟨b, o, none⟩ : Addr).add i = ⟨b, o + i, none⟩ := by unfold Addr.add; split <;> simp_all
theorem optI_find {y x : List Nat} (hy : ∀ a ∈ y, a < 256) (hx : ∀ a ∈ x, a < 256) : optI (findN y x 0) = .int .i64 (Lib.index (u8l x) (u8l y)) := by
  rw [findN_eq hy 0 hx]
  have hge := Lib.index_ge (u8l x) (u8l y)
  generalize Lib.index (u8l x) (u8l y) = r at *
  by_cases hr : r = -1
  · subst hr; rfl
  · rw [if_neg hr]
    show Value.int .i64 (Int.ofNat (0 + r.toNat)) = _
    congr 1
    show ((0 + r.toNat : Nat) : Int) = r
    omega
/-- the kit's contract -/
def IdxOk (P : Program) (f g : Nat) : Prop :=
  ∀ (a1 a2 : Addr) (n c1 k c2 : Nat) (xs ys : List Int) (m : Int) (w : World), xs.length = n → ys.length = k → (∀ x ∈ xs, 0 ≤ x ∧ x < 256) → (∀ y ∈ ys, 0 ≤ y ∧ y < 256) →
    (∀ i, i < n → w.cell? (a1.add i) = some (.int .u8 (xs.getD i 0))) → (∀ i, i < k → w.cell? (a2.add i) = some (.int .u8 (ys.getD i 0))) → n ≤ c1 → n < 4294967281 → k ≤ 9223372036854775807 → w.cell? ⟨g, 0, none⟩ = some (.int .i64 m) →
    Calls P f #[.slice (some a1) n c1, .slice (some a2) k c2] w fun e w' => e = .returned (.int .i64 (Lib.index (Lib.bytesOf xs) (Lib.bytesOf ys))) ∧ ∃ q, w' = w.drewN q
theorem Post.drewN {st : St} (k : SRel φ st w) (q : Nat) : Post φ st w φ st (w.drewN q) :=
  ⟨⟨⟨k.mem.inj, k.mem.obj⟩, k.fresh, k.globals⟩, φ.le_refl, ⟨Nat.le_refl _, rfl, rfl, rfl, fun _ _ n => ⟨rfl, FrF.own n⟩⟩, Nat.le_refl _, fun _ _ => rfl⟩
/-- bytes of a slice, as the world holds them -/
theorem slice_bytes {s : St} (hS : SRel φ s w) {a : Addr} {n c : Nat} {x' : Value} (hn : 0 < n) (hx : VRel φ (.slice (some a) n c) x') {p : Nat × List Value} (h : srcCells s.heap 1 (.slice (some a) n c) = .ok p) {xs : List Nat} (hxs : nats8 p.2 = some xs) :
    ∃ a' c', x' = .slice (some a') n c' ∧ n ≤ c' ∧ xs.length = n ∧ ∀ i, i < n → w.cell? (a'.add i) = some (.int .u8 ((xs.map Int.ofNat).getD i 0)) := by
  obtain ⟨h1, h2⟩ := nats8_some hxs
  obtain ⟨b, o, sp⟩ := a
  have main : ∀ (L : Loc), φ b = some L → sp = none → p.2.length = n ∧ ∀ i, i < n → w.cell? ⟨L.blk, L.base + o + i, none⟩ = p.2[i]? := by
    intro L hL hsp
    subst hsp
    have key : ∀ l, (Rs.of 75 (cutN l o (n * 1))).bind (fun cs => Rs.ok (n, cs)) = .ok p → (∃ c ty fr, w.heap[L.blk]? = some (.cells c ty fr) ∧ CellsAt φ L l c) → p.2.length = n ∧ ∀ i, i < n → w.cell? ⟨L.blk, L.base + o + i, none⟩ = p.2[i]? := by
      intro l e1 ⟨c, ty, fr, hw, hc⟩
      obtain ⟨cs, h3, h4⟩ := Rs.bind_ok e1
      cases h4
      have hcut := Rs.of_ok h3
      rw [Nat.mul_one] at hcut
      obtain ⟨k1, k2⟩ := cutN_some hcut
      have hlen : cs.length = n := by rw [k2, List.length_take, List.length_drop]; omega
      refine ⟨hlen, fun i hi => ?_⟩
      have hi' : cs[i]? = l[o + i]? := by
        rw [k2, List.getElem?_take, if_pos hi, List.getElem?_drop]
      show _ = cs[i]?
      rw [hi']
      have hlt : o + i < l.length := by omega
      obtain ⟨v', q1, q2⟩ := hc (o + i) _ (List.getElem?_eq_getElem hlt)
      rw [cell_of hw, show L.base + o + i = L.base + (o + i) by omega, q1]
      have hv : cs[i]? = some l[o + i] := by rw [hi', List.getElem?_eq_getElem hlt]
      rw [show (n, cs).2 = cs from rfl] at h1
      rw [h1, List.getElem?_map, Option.map_eq_some_iff] at hv
      obtain ⟨z, _, hz⟩ := hv
      rw [List.getElem?_eq_getElem hlt, ← hz]
      rw [← hz] at q2
      cases q2
      rfl
    have h' : (match s.heap.get b with
      | some (.cells l _ _ _ _) => (Rs.of 75 (cutN l o (n * 1))).bind fun cs => Rs.ok (n, cs)
      | some (.const l _) => (Rs.of 75 (cutN l o (n * 1))).bind fun cs => Rs.ok (n, cs)
      | _ => .no 75 "") = .ok p := h
    split at h' <;> first | (cases h'; done) | skip
    · rename_i hb
      obtain ⟨c, fr, hw, hc, _⟩ := hS.mem.cellsAt hb hL
      exact key _ h' ⟨c, _, fr, hw, hc⟩
    · rename_i hb
      obtain ⟨o, hw, hor⟩ := hS.mem.objAt hb hL
      cases hor with
      | const hc => exact key _ h' ⟨_, _, _, hw, hc⟩
  have fin : ∀ (L : Loc), φ b = some L → sp = none → xs.length = n ∧ ∀ i, i < n → w.cell? ((⟨L.blk, L.base + o, none⟩ : Addr).add i) = some (.int .u8 ((xs.map Int.ofNat).getD i 0)) := by
    intro L hL hsp
    obtain ⟨k1, k2⟩ := main L hL hsp
    have hl : xs.length = n := by rw [← k1, h1, List.length_map]
    refine ⟨hl, fun i hi => ?_⟩
    rw [add_plain, k2 i hi, h1, List.getElem?_map, List.getElem?_eq_getElem (by omega)]
    simp [List.getD_eq_getElem?_getD, List.getElem?_map, List.getElem?_eq_getElem (show i < xs.length by omega)]
  cases hx with
  | slice o hL hc hn' =>
    obtain ⟨k1, k2⟩ := fin _ hL rfl
    exact ⟨_, _, rfl, hn', k1, k2⟩
  | room hL hs hc hn' =>
    obtain ⟨k1, k2⟩ := fin _ hL rfl
    exact ⟨_, _, rfl, hn', k1, k2⟩
  | full a hL ho => omega
theorem sumIdx_ok {f g : Nat} (hg : g < 4096) (enter : ∀ args w, (callFunc f args).run P w = .ok (.enter f args) w) (C : IdxOk P f g) {args : List Value} {s : St} {v : Value} {s1 : St} (h : sumIdx g args s = .ok (v, s1))
    (fr : Frame) (cs : List Frame) {args' : Array Value} (hS : SRel φ s w) (hl : LRel φ args args'.toList) :
    ∃ ψ n w1 v' w', (callFunc f args').run P w = .ok n w1 ∧ Ran P .normal fr cs n w1 v' w' ∧ Post φ s w ψ s1 w' ∧ VRel ψ v v' := by
  unfold sumIdx at h
  split at h <;> first | (cases h; done) | skip
  rename_i a n c b m d
  obtain ⟨hn, h⟩ := ifb_no h
  obtain ⟨hm, h⟩ := ifb_no h
  obtain ⟨hn2, h⟩ := ifb_no h
  obtain ⟨hm2, h⟩ := ifb_no h
  obtain ⟨B, hB, h⟩ := Rs.bind_ok h
  have hB := Rs.of_ok hB
  unfold sumIdx2 at h
  obtain ⟨p, h1, h⟩ := Rs.bind_ok h
  obtain ⟨xs, h2, h⟩ := Rs.bind_ok h
  obtain ⟨q, h3, h⟩ := Rs.bind_ok h
  obtain ⟨ys, h4, h⟩ := Rs.bind_ok h
  cases h
  have h2 := Rs.of_ok h2
  have h4 := Rs.of_ok h4
  have hn : 0 < n := by simpa [Nat.blt_eq] using hn
  have hm : 0 < m := by simpa [Nat.blt_eq] using hm
  have hn2 : n ≤ 1073741824 := Nat.le_of_ble_eq_true hn2
  have hm2 : m ≤ 1073741824 := Nat.le_of_ble_eq_true hm2
  obtain ⟨x', y', rfl, hx, hy⟩ : ∃ x' y', args' = #[x', y'] ∧ VRel φ (.slice (some a) n c) x' ∧ VRel φ (.slice (some b) m d) y' := by
    obtain ⟨hlen, hat⟩ := hl
    obtain ⟨l⟩ := args'
    match l, hlen with
    | [x', y'], _ => exact ⟨x', y', rfl, hat 0 _ _ rfl rfl, hat 1 _ _ rfl rfl⟩
  obtain ⟨a1, c1, rfl, k1, k2, k3⟩ := slice_bytes hS hn hx h1 h2
  obtain ⟨a2, c2, rfl, j1, j2, j3⟩ := slice_bytes hS hm hy h3 h4
  obtain ⟨mm, t, hgm, _⟩ := baseM_get hB
  obtain ⟨L, g1, o, g2, g3⟩ := hS.mem.obj _ _ hgm
  rw [hS.globals _ hg] at g1
  cases g1
  have hcell : w.cell? ⟨g, 0, none⟩ = some (.int .i64 mm) := by
    cases g3 with
    | const hc =>
      obtain ⟨v', q1, q2⟩ := hc 0 _ rfl
      cases q2
      rw [cell_of g2]
      simpa using q1
  obtain ⟨r1, r2⟩ := nats8_some h2
  obtain ⟨t1, t2⟩ := nats8_some h4
  have rng : ∀ {zs : List Nat}, (∀ x ∈ zs, x < 256) → ∀ x ∈ zs.map Int.ofNat, 0 ≤ x ∧ x < 256 := fun h x hx => by
    obtain ⟨z, hz, rfl⟩ := List.mem_map.1 hx
    have := h z hz
    show 0 ≤ ((z : Nat) : Int) ∧ ((z : Nat) : Int) < 256
    omega
  have hcall := C a1 a2 n c1 m c2 (xs.map Int.ofNat) (ys.map Int.ofNat) mm w (by rw [List.length_map, k2]) (by rw [List.length_map, j2]) (rng r2) (rng t2) k3 j3 k1 (by omega) (by omega) hcell
  obtain ⟨v', w', ⟨e1, qn, rfl⟩, hran⟩ := ran_of_calls hcall (fun e w' hx => ⟨_, hx.1⟩) fr cs
  cases e1
  have eb : ∀ zs : List Nat, Lib.bytesOf (zs.map Int.ofNat) = u8l zs := fun zs => by
    unfold Lib.bytesOf u8l
    rw [List.map_map]
    rfl
  refine ⟨φ, _, _, _, _, enter _ w, hran, Post.drewN hS qn, ?_⟩
  rw [eb, eb, optI_find t2 r2]
  exact .int _ _
end
end Go.Proofs.YthidnkhhndbidaaGreatDoor.Abs
