/-
  Functions without a body that read bytes.
-/
import Derived.Test.YtbakhdgiimjnkaaGreatDoorAbsExt
import Derived.Lib.Bytealg
namespace Go.Proofs.YtbakhdgiimjnkaaGreatDoor.Abs
section
variable {P : Program} {φ : Phi} {st : St} {w : World} {β : Type}

theorem bytes_at {L : Loc} {l cs : List Value} {c : Array Value} {o n : Nat} {bs : List UInt8} (hc : CellsAt φ L l c) (hcut : cutN l o n = some cs) (hb : cellBytes cs = some bs) :
    ∃ ns : List Int, ns.length = n ∧ (∀ i, i < ns.length → c[L.base + o + i]? = some (.int .u8 (ns[i]?.getD 0))) ∧ bs = ns.map fun n => UInt8.ofNat n.toNat := by
  obtain ⟨hn, hcs⟩ := cutN_some hcut
  obtain ⟨g1, g2⟩ := cellBytes_some hb
  have hlen : cs.length = n := by rw [hcs]; simp; omega
  refine ⟨cs.map fun v => match v with | .int _ n => n | _ => 0, by simp [hlen], ?_, ?_⟩
  · intro i hi
    have hi' : i < cs.length := by simpa using hi
    obtain ⟨m, e1, e2⟩ := g2 i _ (List.getElem?_eq_getElem hi')
    have hl : l[o + i]? = some (.int .u8 m) := by
      rw [← e1, ← List.getElem?_eq_getElem hi', hcs, List.getElem?_take, if_pos (by omega), List.getElem?_drop]
    obtain ⟨v', e3, e4⟩ := hc _ _ hl
    cases e4
    rw [Nat.add_assoc, e3]
    simp only [List.getElem?_map, List.getElem?_eq_getElem hi', e1, Option.map_some, Option.getD_some]
  · apply List.ext_getElem?
    intro i
    by_cases hi : i < cs.length
    · obtain ⟨m, e1, e2⟩ := g2 i _ (List.getElem?_eq_getElem hi)
      rw [e2]
      simp only [List.getElem?_map, List.getElem?_eq_getElem hi, e1, Option.map_some]
    · rw [List.getElem?_eq_none (by omega), List.getElem?_eq_none (by simp only [List.length_map]; omega)]
theorem run_loadB {b : Nat} {c : Array Value} {e : TypeId} {fr : Nat × Nat} (hw : w.heap[b]? = some (.cells c e fr)) : ∀ {ns : List Int} {o : Nat} (acc : ByteArray), (∀ i, i < ns.length → c[o + i]? = some (.int .u8 (ns[i]?.getD 0))) →
    (Extern.Bytes.loadBytes ⟨b, o, none⟩ ns.length acc).run P w = .ok ⟨⟨acc.data.toList ++ ns.map fun n => UInt8.ofNat n.toNat⟩⟩ w
  | [], o, acc, _ => by simp [Extern.Bytes.loadBytes]
  | n :: ns, o, acc, h => by
    have h0 := h 0 (by simp)
    simp only [Nat.add_zero, List.getElem?_cons_zero, Option.getD_some] at h0
    simp only [List.length_cons, Extern.Bytes.loadBytes, Sem.run_bind, run_load, cell_of hw, h0, Result.andThen_ok]
    rw [add_none, run_loadB hw (acc.push n.toNat.toUInt8) (fun i hi => by
      have := h (i + 1) (by simp; omega)
      rw [show o + 1 + i = o + (i + 1) by omega, this]
      simp)]
    simp [ByteArray.push]
theorem cellBytes_back : ∀ (l : List UInt8), cellBytes (byteCells l) = some l
  | [] => rfl
  | b :: l => by
    have : cellBytes (byteCells (b :: l)) = (cellBytes (byteCells l)).map (UInt8.ofNat (Int.ofNat b.toNat).toNat :: ·) := rfl
    rw [this, cellBytes_back l]
    simp

theorem bytesIn_ok (hm : HRel φ st.heap w) {x x' : Value} {bs : List UInt8} (h : bytesIn st.heap x = .ok bs) (hx : VRel φ x x') : (Extern.Bytes.bytesOf x').run P w = .ok ⟨⟨bs⟩⟩ w := by
  unfold bytesIn at h
  obtain ⟨⟨n, cs⟩, h1, h2⟩ := Rs.bind_ok h
  have hb := Rs.of_ok h2
  simp only at hb
  unfold srcCells at h1
  split at h1 <;> first | (cases h1; done) | skip
  · cases h1
    cases hx
    cases hb
    rfl
  · rename_i b o n' c'
    have main : ∀ l, (Rs.of 75 (cutN l o (n' * 1))).bind (fun cs => .ok (n', cs)) = Rs.ok (n, cs) → (∀ L, φ b = some L → ∃ c ty fr, w.heap[L.blk]? = some (.cells c ty fr) ∧ CellsAt φ L l c) →
        (Extern.Bytes.bytesOf x').run P w = .ok ⟨⟨bs⟩⟩ w := by
      intro l e1 hbl
      obtain ⟨c, h3, h4⟩ := Rs.bind_ok e1
      cases h4
      have hcut := Rs.of_ok h3
      rw [Nat.mul_one] at hcut
      have fin : ∀ L c2, φ b = some L → (Extern.Bytes.bytesOf (.slice (some ⟨L.blk, L.base + o, none⟩) n c2)).run P w = .ok ⟨⟨bs⟩⟩ w := by
        intro L c2 hL
        obtain ⟨c, ty, fr, hw, hc⟩ := hbl L hL
        obtain ⟨ns, k1, k2, k3⟩ := bytes_at hc hcut hb
        have := run_loadB (P := P) hw ByteArray.empty k2
        rw [k1] at this
        show (Extern.Bytes.loadBytes ⟨L.blk, L.base + o, none⟩ n ByteArray.empty).run P w = _
        rw [this, k3]
        rfl
      cases hx with
      | slice o hL => exact fin _ _ hL
      | room hL => exact fin _ _ hL
      | full a hL =>
        obtain ⟨_, hcs⟩ := cutN_some hcut
        have : cs = [] := by rw [hcs]; simp
        subst this
        cases hb
        rfl
    split at h1 <;> first | (cases h1; done) | skip
    · rename_i hbk
      exact main _ h1 fun L hL => by
        obtain ⟨c, fr, g1, g2, _⟩ := hm.cellsAt hbk hL
        exact ⟨c, _, fr, g1, g2⟩
    · rename_i hbk
      exact main _ h1 fun L hL => by
        obtain ⟨c, _, fr, g1, g2⟩ := constAt hm hbk hL
        exact ⟨c, _, fr, g1, g2⟩
  · rename_i str
    obtain ⟨h3, h4⟩ := ifb_no h1
    cases h4
    rw [cellBytes_back] at hb
    cases hb
    cases hx
    rfl

theorem countB_eq (c : UInt8) : ∀ (l : List UInt8), countB c.toNat l = l.count c
  | [] => rfl
  | b :: l => by
    show ifb (Nat.beq b.toNat c.toNat) (countB c.toNat l + 1) (countB c.toNat l) = _
    rw [beqNat, ifb_eq, countB_eq c l, List.count_cons]
    split <;> simp_all
theorem findB_eq (c : UInt8) : ∀ (l : List UInt8) (i : Nat), (findB c.toNat l i = none ∧ Lib.indexByte l c = -1) ∨ ∃ j : Nat, findB c.toNat l i = some (i + j) ∧ Lib.indexByte l c = j
  | [], _ => .inl ⟨rfl, rfl⟩
  | b :: l, i => by
    have h1 : findB c.toNat (b :: l) i = ifb (Nat.beq b.toNat c.toNat) (some i) (findB c.toNat l (i + 1)) := rfl
    have h2 : Lib.indexByte (b :: l) c = if b == c then 0 else if Lib.indexByte l c == -1 then -1 else Lib.indexByte l c + 1 := rfl
    rw [h1, h2, beqNat, ifb_eq]
    by_cases hc : (b == c) = true
    · rw [if_pos hc, if_pos hc]
      exact .inr ⟨0, rfl, rfl⟩
    · rw [if_neg hc, if_neg hc]
      rcases findB_eq c l (i + 1) with ⟨k1, k2⟩ | ⟨j, k1, k2⟩
      · rw [k1, k2]
        exact .inl ⟨rfl, rfl⟩
      · rw [k1, k2]
        have hj : ((j : Int) == -1) = false := by
          rw [beq_eq_false_iff_ne]
          omega
        rw [hj]
        exact .inr ⟨j + 1, by rw [show i + 1 + j = i + (j + 1) by omega], by simp⟩
theorem cmpB_eq : ∀ (l m : List UInt8), (ifb (bLess l m) (-1 : Int) (ifb (bEq l m) 0 1)) = Lib.compareBytes l m
  | [], [] => rfl
  | [], _ :: _ => rfl
  | _ :: _, [] => rfl
  | a :: l, b :: m => by
    have h1 : bLess (a :: l) (b :: m) = ifb (Nat.blt a.toNat b.toNat) true (ifb (Nat.beq a.toNat b.toNat) (bLess l m) false) := rfl
    have h2 : bEq (a :: l) (b :: m) = ifb (Nat.beq a.toNat b.toNat) (bEq l m) false := rfl
    have h3 : Lib.compareBytes (a :: l) (b :: m) = if a < b then -1 else if b < a then 1 else Lib.compareBytes l m := rfl
    rw [h1, h2, h3, ← cmpB_eq l m]
    have e1 : Nat.blt a.toNat b.toNat = decide (a < b) := by
      rw [Bool.eq_iff_iff, Nat.blt_eq, decide_eq_true_iff]
      rfl
    rw [e1, beqNat]
    by_cases hab : a < b
    · simp [hab, ifb_eq]
    · by_cases hba : b < a
      · have hne : (a == b) = false := by
          rw [beq_eq_false_iff_ne]
          rintro rfl
          exact hab hba
        simp [hab, hba, hne, ifb_eq]
      · have heq : a = b := by
          apply UInt8.toNat_inj.1
          have h1 : ¬ a.toNat < b.toNat := hab
          have h2 : ¬ b.toNat < a.toNat := hba
          omega
        subst heq
        simp [ifb_eq]
theorem toN {n : Nat} (h : n < 256) : (UInt8.ofNat n).toNat = n := by
  simp
  omega
theorem xCount_ok (hS : SRel φ st w) {rt : Array TypeId} {args : List Value} {as : Array Value} {k : Value → St → Rs β} {r : β} (h : ext P st rt .count args k = .ok r) (hl : LRel φ args as.toList) : Act P φ st w (Extern.BytealgCount.count as) k r := by
  unfold ext at h
  split at h <;> first | (cases h; done) | contradiction | skip
  rename_i x n _
  obtain ⟨bs, h1, h2⟩ := Rs.bind_ok h
  obtain ⟨h3, h4⟩ := ifb_no h2
  obtain ⟨x', c', rfl, hx, hc⟩ := args2 hl
  have hn : n < 256 := by simpa using h3
  have hb := bytesIn_ok (P := P) hS.mem h1 hx
  cases hc
  have same : (Extern.BytealgCount.count #[x', .int .u8 (Int.ofNat n)]).run P w = (Extern.BytealgCount.count #[.string ⟨⟨bs⟩⟩, .int .u8 (Int.ofNat n)]).run P w := by
    show Sem.run P (Extern.Bytes.bytesOf x' >>= fun b => _) w = Sem.run P (Extern.Bytes.bytesOf (.string ⟨⟨bs⟩⟩) >>= fun b => _) w
    rw [Sem.run_bind, Sem.run_bind, hb]
    rfl
  have hcount : countB n bs = Lib.countByte bs (Int.ofNat n).toNat.toUInt8 := by
    have := countB_eq (UInt8.ofNat n) bs
    rw [toN hn] at this
    exact this
  refine ⟨_, st, φ, _, w, ?_, .refl hS, .int _ _, h4⟩
  rw [same, Lib.run_countString, hcount]
  rfl
theorem xIndexByte_ok (hS : SRel φ st w) {rt : Array TypeId} {args : List Value} {as : Array Value} {k : Value → St → Rs β} {r : β} (h : ext P st rt .indexByte args k = .ok r) (hl : LRel φ args as.toList) : Act P φ st w (Extern.BytealgIndexByte.indexByte as) k r := by
  unfold ext at h
  split at h <;> first | (cases h; done) | contradiction | skip
  rename_i x n _
  obtain ⟨bs, h1, h2⟩ := Rs.bind_ok h
  obtain ⟨h3, h4⟩ := ifb_no h2
  obtain ⟨x', c', rfl, hx, hc⟩ := args2 hl
  have hn : n < 256 := by simpa using h3
  have hb := bytesIn_ok (P := P) hS.mem h1 hx
  cases hc
  have same : (Extern.BytealgIndexByte.indexByte #[x', .int .u8 (Int.ofNat n)]).run P w = (Extern.BytealgIndexByte.indexByte #[.string ⟨⟨bs⟩⟩, .int .u8 (Int.ofNat n)]).run P w := by
    show Sem.run P (Extern.Bytes.bytesOf x' >>= fun b => _) w = Sem.run P (Extern.Bytes.bytesOf (.string ⟨⟨bs⟩⟩) >>= fun b => _) w
    rw [Sem.run_bind, Sem.run_bind, hb]
    rfl
  have hfind : optI (findB n bs 0) = .int .i64 (Lib.indexByte bs (Int.ofNat n).toNat.toUInt8) := by
    have key := findB_eq (UInt8.ofNat n) bs 0
    rw [toN hn] at key
    have e : (Int.ofNat n).toNat.toUInt8 = UInt8.ofNat n := rfl
    rw [e]
    rcases key with ⟨k1, k2⟩ | ⟨j, k1, k2⟩
    · rw [k1, k2]; rfl
    · rw [k1, k2, Nat.zero_add]; rfl
  rw [hfind] at h4
  refine ⟨_, st, φ, _, w, ?_, .refl hS, .int _ _, h4⟩
  rw [same, Lib.run_indexByteString]
theorem xCmp_ok (hS : SRel φ st w) {rt : Array TypeId} {args : List Value} {as : Array Value} {k : Value → St → Rs β} {r : β} (h : ext P st rt .cmp args k = .ok r) (hl : LRel φ args as.toList) : Act P φ st w (Extern.BytealgCompare.compare as) k r := by
  unfold ext at h
  split at h <;> first | (cases h; done) | contradiction | skip
  rename_i x y _
  obtain ⟨bs, h1, h2⟩ := Rs.bind_ok h
  obtain ⟨cs, h3, h4⟩ := Rs.bind_ok h2
  obtain ⟨x', y', rfl, hx, hy⟩ := args2 hl
  have hb := bytesIn_ok (P := P) hS.mem h1 hx
  have hc := bytesIn_ok (P := P) hS.mem h3 hy
  have same : (Extern.BytealgCompare.compare #[x', y']).run P w = (Extern.BytealgCompare.compare #[.string ⟨⟨bs⟩⟩, .string ⟨⟨cs⟩⟩]).run P w := by
    show Sem.run P (Extern.Bytes.bytesOf x' >>= fun a => Extern.Bytes.bytesOf y' >>= fun b => _) w = Sem.run P (Extern.Bytes.bytesOf (.string ⟨⟨bs⟩⟩) >>= fun a => Extern.Bytes.bytesOf (.string ⟨⟨cs⟩⟩) >>= fun b => _) w
    rw [Sem.run_bind, Sem.run_bind, hb]
    simp only [Result.andThen_ok, Sem.run_bind, hc]
    rfl
  rw [cmpB_eq] at h4
  refine ⟨_, st, φ, _, w, ?_, .refl hS, .int _ _, h4⟩
  rw [same, Lib.run_compareString]
end
end Go.Proofs.YtbakhdgiimjnkaaGreatDoor.Abs
