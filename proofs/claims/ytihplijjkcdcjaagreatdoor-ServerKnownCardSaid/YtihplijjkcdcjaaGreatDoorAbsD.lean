/-
  The evaluator and what is proved of it (several texts in one).
-/
import Derived.Test.YtihplijjkcdcjaaGreatDoorAbsC
import Derived.Lib.Bytealg
set_option linter.unusedVariables false
set_option linter.unusedSimpArgs false
/-
  Functions without a body.
-/
namespace Go.Proofs.YtihplijjkcdcjaaGreatDoor.Abs
section
variable {P : Program} {φ : Phi} {st : St} {w : World} {β : Type}

theorem run_ext {f : FuncId} {fn : Func} {e : Array Value → Sem Value} {args : Array Value} (hf : P.funcs[f]? = some fn) (hname : fn.name ≠ "runtime.NumGoroutine") (hb : fn.body = none) (hn : Extern.findNext fn = none) (he : Extern.find fn = some e) :
    (callFunc f args).run P w = (do pure (Next.value (← e args)) : Sem Next).run P w := by
  simp [callFunc, hf, hname, hb, hn, he]

theorem look_of {fn : Func} {n : String} {e : Array Value → Sem Value} (hn : fn.name = n) (ho : fn.origin = "") (h1 : (Extern.allGenericRows.lookup n).isNone = true) (h2 : (Extern.allTypedRows.lookup n).isNone = true) (h3 : Extern.allRows.lookup n = some e)
    (h4 : (Extern.allNextRows.lookup n).isNone = true) : Extern.findNext fn = none ∧ Extern.find fn = some e := by
  have h5 : (Extern.allNextRows.lookup "").isNone = true := by rfl
  rw [Option.isNone_iff_eq_none] at h1 h2 h4 h5
  constructor
  · simp only [Extern.findNext, hn, ho, h4, h5]
    rfl
  · simp only [Extern.find, hn, h1, h2, h3]
    rfl

theorem args1 {v : Value} {as : Array Value} (h : LRel φ [v] as.toList) : ∃ v', as = #[v'] ∧ VRel φ v v' := by
  obtain ⟨l⟩ := as
  match l, h with
  | [v'], h => exact ⟨v', rfl, h.2 0 v v' rfl rfl⟩
  | [], h => exact absurd h.1 (by simp)
  | _ :: _ :: _, h => exact absurd h.1 (by simp)
theorem args2 {u v : Value} {as : Array Value} (h : LRel φ [u, v] as.toList) : ∃ u' v', as = #[u', v'] ∧ VRel φ u u' ∧ VRel φ v v' := by
  obtain ⟨l⟩ := as
  match l, h with
  | [u', v'], h => exact ⟨u', v', rfl, h.2 0 u u' rfl rfl, h.2 1 v v' rfl rfl⟩
  | [], h => exact absurd h.1 (by simp)
  | [_], h => exact absurd h.1 (by simp)
  | _ :: _ :: _ :: _, h => exact absurd h.1 (by simp)

/-- a cell, and a store into it as an atomic step -/
theorem cellAt (hS : SRel φ st w) {b o : Nat} {l : List Value} {e : TypeId} {s : Nat} {opn : Bool} {fz : Nat × Nat} {L : Loc} {v : Value} (hb : st.heap.get b = some (.cells l e s opn fz)) (hL : φ b = some L) (hv : l[o]? = some v) : ∃ v', w.cell? ⟨L.blk, L.base + o, none⟩ = some v' ∧ VRel φ v v' := by
  obtain ⟨c, fr, hw, hc, _⟩ := hS.mem.cellsAt hb hL
  obtain ⟨v', h1, h2⟩ := hc o v hv
  exact ⟨v', by rw [cell_of hw, h1], h2⟩
theorem store_as {a : Addr} {v u : Value} {w' : World} (h : (storeCells a [v]).run P w = .ok () w') (hv : v.oneCell' = true) (hc : w.cell? ⟨a.block, a.off, none⟩ = some u) (hs : a.spot = none) (m : Mode) : (store a v m).run P w = .ok () w' := by
  obtain ⟨b, o, s⟩ := a
  cases hs
  unfold storeCells at h
  rw [Sem.run_bind, add_none, Nat.add_zero, run_store _ _ _ _ _ hv] at h
  rw [run_store _ _ _ _ _ hv]
  simp only [hc] at h ⊢
  split at h
  · cases h
  · rename_i hf
    rw [if_neg hf]
    exact h

theorem xAdd_ok (hS : SRel φ st w) {kd : IntKind} {rt : Array TypeId} {args : List Value} {as : Array Value} {k : Value → St → Rs β} {r : β} (h : ext P st rt (.add kd) args k = .ok r) (hl : LRel φ args as.toList) :
    Act P φ st w (Extern.Atomic.update (Op.intArith .add) kd true as) k r := by
  unfold ext at h
  split at h <;> first | (cases h; done) | contradiction | skip
  rename_i kd' b o ky y heq
  cases heq
  split at h <;> first | (cases h; done) | skip
  rename_i l e s opn fz hb
  obtain ⟨v, h1, h2⟩ := Rs.bind_ok h
  split at h2 <;> first | (cases h2; done) | skip
  rename_i kn n
  obtain ⟨h3, h4⟩ := ifb_no h2
  rw [intK_eq] at h4
  have hk : kd = kn := of_decide_eq_true h3
  subst hk
  obtain ⟨p', y', rfl, hp, hy⟩ := args2 hl
  cases hy
  cases hp with
  | @ptr _ L _ hL =>
    obtain ⟨v', c1, c2⟩ := cellAt hS hb hL (Rs.of_ok h1)
    cases c2
    obtain ⟨st', w', r1, r2, r3, _⟩ := turn_ok (P := P) hS hL h4 (LRel.cons (.int kd (kd.wrap (n + y))) (.nil φ))
    have hst := store_as r1 rfl c1 rfl .atomic
    refine ⟨_, st', φ, _, w', ?_, r2, .int _ _, r3⟩
    show Sem.run P (asAddr (.pointer (some ⟨L.blk, L.base + o, none⟩)) >>= fun a => Extern.Atomic.read (.int kd) a >>= fun old => asInt old >>= fun x => asInt (Value.int ky y) >>= fun z => Op.intArith .add kd x z >>= fun new => store a new .atomic >>= fun _ => pure (if true then new else old)) w = _
    simp only [asAddr, Sem.run_bind, Sem.run_pure, Result.andThen_ok, Extern.Atomic.read, run_load, c1, if_true, asInt, asIntOf, Op.intArith, hst]
theorem xLoad_ok (hS : SRel φ st w) {kd : IntKind} {rt : Array TypeId} {args : List Value} {as : Array Value} {k : Value → St → Rs β} {r : β} (h : ext P st rt (.load kd) args k = .ok r) (hl : LRel φ args as.toList) :
    Act P φ st w (Extern.Atomic.loadT (.int kd) as) k r := by
  unfold ext at h
  split at h <;> first | (cases h; done) | contradiction | skip
  rename_i kd' b o heq
  cases heq
  split at h <;> first | (cases h; done) | skip
  rename_i l e s opn fz hb
  obtain ⟨v, h1, h2⟩ := Rs.bind_ok h
  split at h2 <;> first | (cases h2; done) | skip
  rename_i kn n
  obtain ⟨h3, h4⟩ := ifb_no h2
  have hk : kd = kn := of_decide_eq_true h3
  subst hk
  obtain ⟨p', rfl, hp⟩ := args1 hl
  cases hp with
  | @ptr _ L _ hL =>
    obtain ⟨v', c1, c2⟩ := cellAt hS hb hL (Rs.of_ok h1)
    cases c2
    refine ⟨_, st, φ, _, w, ?_, .refl hS, .int kd n, h4⟩
    show Sem.run P (asAddr (.pointer (some ⟨L.blk, L.base + o, none⟩)) >>= _) w = _
    simp only [asAddr, Sem.run_bind, Sem.run_pure, Result.andThen_ok, Extern.Atomic.read, run_load, c1, if_true]
theorem xSame_ok (hS : SRel φ st w) {rt : Array TypeId} {args : List Value} {as : Array Value} {k : Value → St → Rs β} {r : β} (h : ext P st rt .same args k = .ok r) (hl : LRel φ args as.toList) : Act P φ st w (Extern.AbiNoEscape.same as) k r := by
  unfold ext at h
  split at h <;> first | (cases h; done) | contradiction | skip
  obtain ⟨p', rfl, hp⟩ := args1 hl
  exact ⟨_, st, φ, _, w, rfl, .refl hS, hp, h⟩
theorem xClone_ok (hS : SRel φ st w) {rt : Array TypeId} {args : List Value} {as : Array Value} {k : Value → St → Rs β} {r : β} (h : ext P st rt .clone args k = .ok r) (hl : LRel φ args as.toList) : Act P φ st w (Extern.MapsClone.clone as) k r := by
  unfold ext at h
  split at h <;> first | (cases h; done) | contradiction | skip
  split at h <;> first | (cases h; done) | skip
  rename_i es clock hb
  rw [St.new_eq] at h
  obtain ⟨p', rfl, hp⟩ := args1 hl
  cases hp with
  | iface t hv =>
    cases hv with
    | @map _ L hL =>
      obtain ⟨fs, hw, hE⟩ := mapAtL hS hb hL
      have hg := run_getObj (P := P) hw (fun _ _ _ e => by cases e)
      have hp := Post.new hS (.map es clock) (.map ⟨fs⟩ clock) ⟨w.heap.size, 0, 0, 0⟩ rfl (fun ψ hle => (hE.mono hle).obj _ _)
      refine ⟨_, _, _, .iface _ (.map (some w.heap.size)), _, ?_, hp, .iface _ (.map (L := ⟨w.heap.size, 0, 0, 0⟩) (Phi.add_same _ _ _)), h⟩
      show Sem.run P (getObj L.blk >>= _) w = _
      simp only [Sem.run_bind, hg, Result.andThen_ok, run_newObj, Sem.run_pure]

theorem xStore_ok (hS : SRel φ st w) {rt : Array TypeId} {args : List Value} {as : Array Value} {k : Value → St → Rs β} {r : β} (h : ext P st rt .store args k = .ok r) (hl : LRel φ args as.toList) : Act P φ st w (Extern.Atomic.storeT as) k r := by
  unfold ext at h
  split at h <;> first | (cases h; done) | contradiction | skip
  rename_i b o v _
  obtain ⟨p', v', rfl, hp, hv⟩ := args2 hl
  have hcell : ∃ l e s opn fz, st.heap.get b = some (.cells l e s opn fz) ∧ (∃ u, l[o]? = some u) ∧ oneB v = true := by
    unfold turn at h
    split at h <;> first | (cases h; done) | skip
    rename_i l e s opn fz hb
    obtain ⟨h1, h2⟩ := ifb_no h
    obtain ⟨l', h3, _⟩ := Rs.bind_ok h2
    obtain ⟨h4, _⟩ := over_some (Rs.of_ok h3)
    simp only [List.length_cons, List.length_nil] at h4
    simp only [Bool.and_eq_true, List.all_cons, List.all_nil] at h1
    exact ⟨l, e, s, opn, fz, hb, ⟨_, List.getElem?_eq_getElem (by omega)⟩, h1.2.1⟩
  obtain ⟨l, e, s, opn, fz, hb, ⟨u, hu⟩, h1⟩ := hcell
  cases hp with
  | @ptr _ L _ hL =>
    obtain ⟨u', c1, _⟩ := cellAt hS hb hL hu
    obtain ⟨st', w', r1, r2, r3, _⟩ := turn_ok (P := P) hS hL h (LRel.cons hv (.nil φ))
    have hst := store_as r1 (hv.one h1) c1 rfl .atomic
    refine ⟨_, st', φ, .tuple #[], w', ?_, r2, und_rel, r3⟩
    show Sem.run P (asAddr (.pointer (some ⟨L.blk, L.base + o, none⟩)) >>= fun a => store a v' .atomic >>= fun _ => pure Extern.Atomic.none_) w = _
    simp only [asAddr, Sem.run_bind, Sem.run_pure, Result.andThen_ok, hst]
    rfl
end
end Go.Proofs.YtihplijjkcdcjaaGreatDoor.Abs

/-
  Functions without a body that read bytes.
-/
namespace Go.Proofs.YtihplijjkcdcjaaGreatDoor.Abs
section
variable {P : Program} {φ : Phi} {st : St} {w : World} {β : Type}

theorem bytes_at {L : Loc} {l cs : List Value} {c : Array Value} {o n : Nat} {bs : List UInt8} (hc : CellsAt φ L l c) (hcut : cutN l o n = some cs) (hb : cellBytes cs = some bs) :
    ∃ ns : List Int, ns.length = n ∧ (∀ i, i < ns.length → c[L.base + o + i]? = some (.int .u8 (ns[i]?.getD 0))) ∧ bs = ns.map fun n => UInt8.ofNat n.toNat := by
  obtain ⟨hn, hcs⟩ := cutN_some hcut
  obtain ⟨g1, g2⟩ := cellBytes_some hb
  have hlen : cs.length = n := by rw [hcs]; simp; omega
  refine ⟨cs.map fun v => match v with | .int _ n => n | _ => 0, by simp [hlen], ?_, ?_⟩
  · intro i hi
    have hi' : i < cs.length := by simpa using hi
    obtain ⟨m, e1, e2⟩ := g2 i _ (List.getElem?_eq_getElem hi')
    have hl : l[o + i]? = some (.int .u8 m) := by
      rw [← e1, ← List.getElem?_eq_getElem hi', hcs, List.getElem?_take, if_pos (by omega), List.getElem?_drop]
    obtain ⟨v', e3, e4⟩ := hc _ _ hl
    cases e4
    rw [Nat.add_assoc, e3]
    simp only [List.getElem?_map, List.getElem?_eq_getElem hi', e1, Option.map_some, Option.getD_some]
  · apply List.ext_getElem?
    intro i
    by_cases hi : i < cs.length
    · obtain ⟨m, e1, e2⟩ := g2 i _ (List.getElem?_eq_getElem hi)
      rw [e2]
      simp only [List.getElem?_map, List.getElem?_eq_getElem hi, e1, Option.map_some]
    · rw [List.getElem?_eq_none (by omega), List.getElem?_eq_none (by simp only [List.length_map]; omega)]
theorem run_loadB {b : Nat} {c : Array Value} {e : TypeId} {fr : Nat × Nat} (hw : w.heap[b]? = some (.cells c e fr)) : ∀ {ns : List Int} {o : Nat} (acc : ByteArray), (∀ i, i < ns.length → c[o + i]? = some (.int .u8 (ns[i]?.getD 0))) →
    (Extern.Bytes.loadBytes ⟨b, o, none⟩ ns.length acc).run P w = .ok ⟨⟨acc.data.toList ++ ns.map fun n => UInt8.ofNat n.toNat⟩⟩ w
  | [], o, acc, _ => by simp [Extern.Bytes.loadBytes]
  | n :: ns, o, acc, h => by
    have h0 := h 0 (by simp)
    simp only [Nat.add_zero, List.getElem?_cons_zero, Option.getD_some] at h0
    simp only [List.length_cons, Extern.Bytes.loadBytes, Sem.run_bind, run_load, cell_of hw, h0, Result.andThen_ok]
    rw [add_none, run_loadB hw (acc.push n.toNat.toUInt8) (fun i hi => by
      have := h (i + 1) (by simp; omega)
      rw [show o + 1 + i = o + (i + 1) by omega, this]
      simp)]
    simp [ByteArray.push]
theorem cellBytes_back : ∀ (l : List UInt8), cellBytes (byteCells l) = some l
  | [] => rfl
  | b :: l => by
    have : cellBytes (byteCells (b :: l)) = (cellBytes (byteCells l)).map (UInt8.ofNat (Int.ofNat b.toNat).toNat :: ·) := rfl
    rw [this, cellBytes_back l]
    simp

theorem bytesIn_ok (hm : HRel φ st.heap w) {x x' : Value} {bs : List UInt8} (h : bytesIn st.heap x = .ok bs) (hx : VRel φ x x') : (Extern.Bytes.bytesOf x').run P w = .ok ⟨⟨bs⟩⟩ w := by
  unfold bytesIn at h
  obtain ⟨⟨n, cs⟩, h1, h2⟩ := Rs.bind_ok h
  have hb := Rs.of_ok h2
  simp only at hb
  unfold srcCells at h1
  split at h1 <;> first | (cases h1; done) | skip
  · cases h1
    cases hx
    cases hb
    rfl
  · rename_i b o n' c'
    have main : ∀ l, (Rs.of 75 (cutN l o (n' * 1))).bind (fun cs => .ok (n', cs)) = Rs.ok (n, cs) → (∀ L, φ b = some L → ∃ c ty fr, w.heap[L.blk]? = some (.cells c ty fr) ∧ CellsAt φ L l c) →
        (Extern.Bytes.bytesOf x').run P w = .ok ⟨⟨bs⟩⟩ w := by
      intro l e1 hbl
      obtain ⟨c, h3, h4⟩ := Rs.bind_ok e1
      cases h4
      have hcut := Rs.of_ok h3
      rw [Nat.mul_one] at hcut
      have fin : ∀ L c2, φ b = some L → (Extern.Bytes.bytesOf (.slice (some ⟨L.blk, L.base + o, none⟩) n c2)).run P w = .ok ⟨⟨bs⟩⟩ w := by
        intro L c2 hL
        obtain ⟨c, ty, fr, hw, hc⟩ := hbl L hL
        obtain ⟨ns, k1, k2, k3⟩ := bytes_at hc hcut hb
        have := run_loadB (P := P) hw ByteArray.empty k2
        rw [k1] at this
        show (Extern.Bytes.loadBytes ⟨L.blk, L.base + o, none⟩ n ByteArray.empty).run P w = _
        rw [this, k3]
        rfl
      cases hx with
      | slice o hL => exact fin _ _ hL
      | room hL => exact fin _ _ hL
      | full a hL =>
        obtain ⟨_, hcs⟩ := cutN_some hcut
        have : cs = [] := by rw [hcs]; simp
        subst this
        cases hb
        rfl
    split at h1 <;> first | (cases h1; done) | skip
    · rename_i hbk
      exact main _ h1 fun L hL => by
        obtain ⟨c, fr, g1, g2, _⟩ := hm.cellsAt hbk hL
        exact ⟨c, _, fr, g1, g2⟩
    · rename_i hbk
      exact main _ h1 fun L hL => by
        obtain ⟨c, _, fr, g1, g2⟩ := constAt hm hbk hL
        exact ⟨c, _, fr, g1, g2⟩
  · rename_i str
    obtain ⟨h3, h4⟩ := ifb_no h1
    cases h4
    rw [cellBytes_back] at hb
    cases hb
    cases hx
    rfl

theorem countB_eq (c : UInt8) : ∀ (l : List UInt8), countB c.toNat l = l.count c
  | [] => rfl
  | b :: l => by
    show ifb (Nat.beq b.toNat c.toNat) (countB c.toNat l + 1) (countB c.toNat l) = _
    rw [beqNat, ifb_eq, countB_eq c l, List.count_cons]
    split <;> simp_all
theorem findB_eq (c : UInt8) : ∀ (l : List UInt8) (i : Nat), (findB c.toNat l i = none ∧ Lib.indexByte l c = -1) ∨ ∃ j : Nat, findB c.toNat l i = some (i + j) ∧ Lib.indexByte l c = j
  | [], _ => .inl ⟨rfl, rfl⟩
  | b :: l, i => by
    have h1 : findB c.toNat (b :: l) i = ifb (Nat.beq b.toNat c.toNat) (some i) (findB c.toNat l (i + 1)) := rfl
    have h2 : Lib.indexByte (b :: l) c = if b == c then 0 else if Lib.indexByte l c == -1 then -1 else Lib.indexByte l c + 1 := rfl
    rw [h1, h2, beqNat, ifb_eq]
    by_cases hc : (b == c) = true
    · rw [if_pos hc, if_pos hc]
      exact .inr ⟨0, rfl, rfl⟩
    · rw [if_neg hc, if_neg hc]
      rcases findB_eq c l (i + 1) with ⟨k1, k2⟩ | ⟨j, k1, k2⟩
      · rw [k1, k2]
        exact .inl ⟨rfl, rfl⟩
      · rw [k1, k2]
        have hj : ((j : Int) == -1) = false := by
          rw [beq_eq_false_iff_ne]
          omega
        rw [hj]
        exact .inr ⟨j + 1, by rw [show i + 1 + j = i + (j + 1) by omega], by simp⟩
theorem cmpB_eq : ∀ (l m : List UInt8), (ifb (bLess l m) (-1 : Int) (ifb (bEq l m) 0 1)) = Lib.compareBytes l m
  | [], [] => rfl
  | [], _ :: _ => rfl
  | _ :: _, [] => rfl
  | a :: l, b :: m => by
    have h1 : bLess (a :: l) (b :: m) = ifb (Nat.blt a.toNat b.toNat) true (ifb (Nat.beq a.toNat b.toNat) (bLess l m) false) := rfl
    have h2 : bEq (a :: l) (b :: m) = ifb (Nat.beq a.toNat b.toNat) (bEq l m) false := rfl
    have h3 : Lib.compareBytes (a :: l) (b :: m) = if a < b then -1 else if b < a then 1 else Lib.compareBytes l m := rfl
    rw [h1, h2, h3, ← cmpB_eq l m]
    have e1 : Nat.blt a.toNat b.toNat = decide (a < b) := by
      rw [Bool.eq_iff_iff, Nat.blt_eq, decide_eq_true_iff]
      rfl
    rw [e1, beqNat]
    by_cases hab : a < b
    · simp [hab, ifb_eq]
    · by_cases hba : b < a
      · have hne : (a == b) = false := by
          rw [beq_eq_false_iff_ne]
          rintro rfl
          exact hab hba
        simp [hab, hba, hne, ifb_eq]
      · have heq : a = b := by
          apply UInt8.toNat_inj.1
          have h1 : ¬ a.toNat < b.toNat := hab
          have h2 : ¬ b.toNat < a.toNat := hba
          omega
        subst heq
        simp [ifb_eq]
theorem toN {n : Nat} (h : n < 256) : (UInt8.ofNat n).toNat = n := by
  simp
  omega
theorem xCount_ok (hS : SRel φ st w) {rt : Array TypeId} {args : List Value} {as : Array Value} {k : Value → St → Rs β} {r : β} (h : ext P st rt .count args k = .ok r) (hl : LRel φ args as.toList) : Act P φ st w (Extern.BytealgCount.count as) k r := by
  unfold ext at h
  split at h <;> first | (cases h; done) | contradiction | skip
  rename_i x n _
  obtain ⟨bs, h1, h2⟩ := Rs.bind_ok h
  obtain ⟨h3, h4⟩ := ifb_no h2
  obtain ⟨x', c', rfl, hx, hc⟩ := args2 hl
  have hn : n < 256 := by simpa using h3
  have hb := bytesIn_ok (P := P) hS.mem h1 hx
  cases hc
  have same : (Extern.BytealgCount.count #[x', .int .u8 (Int.ofNat n)]).run P w = (Extern.BytealgCount.count #[.string ⟨⟨bs⟩⟩, .int .u8 (Int.ofNat n)]).run P w := by
    show Sem.run P (Extern.Bytes.bytesOf x' >>= fun b => _) w = Sem.run P (Extern.Bytes.bytesOf (.string ⟨⟨bs⟩⟩) >>= fun b => _) w
    rw [Sem.run_bind, Sem.run_bind, hb]
    rfl
  have hcount : countB n bs = Lib.countByte bs (Int.ofNat n).toNat.toUInt8 := by
    have := countB_eq (UInt8.ofNat n) bs
    rw [toN hn] at this
    exact this
  refine ⟨_, st, φ, _, w, ?_, .refl hS, .int _ _, h4⟩
  rw [same, Lib.run_countString, hcount]
  rfl
theorem xIndexByte_ok (hS : SRel φ st w) {rt : Array TypeId} {args : List Value} {as : Array Value} {k : Value → St → Rs β} {r : β} (h : ext P st rt .indexByte args k = .ok r) (hl : LRel φ args as.toList) : Act P φ st w (Extern.BytealgIndexByte.indexByte as) k r := by
  unfold ext at h
  split at h <;> first | (cases h; done) | contradiction | skip
  rename_i x n _
  obtain ⟨bs, h1, h2⟩ := Rs.bind_ok h
  obtain ⟨h3, h4⟩ := ifb_no h2
  obtain ⟨x', c', rfl, hx, hc⟩ := args2 hl
  have hn : n < 256 := by simpa using h3
  have hb := bytesIn_ok (P := P) hS.mem h1 hx
  cases hc
  have same : (Extern.BytealgIndexByte.indexByte #[x', .int .u8 (Int.ofNat n)]).run P w = (Extern.BytealgIndexByte.indexByte #[.string ⟨⟨bs⟩⟩, .int .u8 (Int.ofNat n)]).run P w := by
    show Sem.run P (Extern.Bytes.bytesOf x' >>= fun b => _) w = Sem.run P (Extern.Bytes.bytesOf (.string ⟨⟨bs⟩⟩) >>= fun b => _) w
    rw [Sem.run_bind, Sem.run_bind, hb]
    rfl
  have hfind : optI (findB n bs 0) = .int .i64 (Lib.indexByte bs (Int.ofNat n).toNat.toUInt8) := by
    have key := findB_eq (UInt8.ofNat n) bs 0
    rw [toN hn] at key
    have e : (Int.ofNat n).toNat.toUInt8 = UInt8.ofNat n := rfl
    rw [e]
    rcases key with ⟨k1, k2⟩ | ⟨j, k1, k2⟩
    · rw [k1, k2]; rfl
    · rw [k1, k2, Nat.zero_add]; rfl
  rw [hfind] at h4
  refine ⟨_, st, φ, _, w, ?_, .refl hS, .int _ _, h4⟩
  rw [same, Lib.run_indexByteString]
theorem xCmp_ok (hS : SRel φ st w) {rt : Array TypeId} {args : List Value} {as : Array Value} {k : Value → St → Rs β} {r : β} (h : ext P st rt .cmp args k = .ok r) (hl : LRel φ args as.toList) : Act P φ st w (Extern.BytealgCompare.compare as) k r := by
  unfold ext at h
  split at h <;> first | (cases h; done) | contradiction | skip
  rename_i x y _
  obtain ⟨bs, h1, h2⟩ := Rs.bind_ok h
  obtain ⟨cs, h3, h4⟩ := Rs.bind_ok h2
  obtain ⟨x', y', rfl, hx, hy⟩ := args2 hl
  have hb := bytesIn_ok (P := P) hS.mem h1 hx
  have hc := bytesIn_ok (P := P) hS.mem h3 hy
  have same : (Extern.BytealgCompare.compare #[x', y']).run P w = (Extern.BytealgCompare.compare #[.string ⟨⟨bs⟩⟩, .string ⟨⟨cs⟩⟩]).run P w := by
    show Sem.run P (Extern.Bytes.bytesOf x' >>= fun a => Extern.Bytes.bytesOf y' >>= fun b => _) w = Sem.run P (Extern.Bytes.bytesOf (.string ⟨⟨bs⟩⟩) >>= fun a => Extern.Bytes.bytesOf (.string ⟨⟨cs⟩⟩) >>= fun b => _) w
    rw [Sem.run_bind, Sem.run_bind, hb]
    simp only [Result.andThen_ok, Sem.run_bind, hc]
    rfl
  rw [cmpB_eq] at h4
  refine ⟨_, st, φ, _, w, ?_, .refl hS, .int _ _, h4⟩
  rw [same, Lib.run_compareString]
end
end Go.Proofs.YtihplijjkcdcjaaGreatDoor.Abs

/-
  More functions without a body.
-/
namespace Go.Proofs.YtihplijjkcdcjaaGreatDoor.Abs
section
variable {P : Program} {φ : Phi} {st : St} {w : World} {β : Type}

theorem xTouch_ok (hS : SRel φ st w) {rt : Array TypeId} {m : Addr → Mark} {args : List Value} {as : Array Value} {k : Value → St → Rs β} {r : β} (h : ext P st rt .touch args k = .ok r) (hl : LRel φ args as.toList) : Act P φ st w (Extern.Race.marked m as) k r := by
  unfold ext at h
  split at h <;> first | (cases h; done) | contradiction | skip
  obtain ⟨p', rfl, hp⟩ := args1 hl
  have fin : ∀ a, p' = .pointer (some a) → Act P φ st w (Extern.Race.marked m #[p']) k r := by
    intro a ha
    subst ha
    exact ⟨_, st, φ, .tuple #[], w, rfl, .refl hS, und_rel, h⟩
  cases hp
  exact fin _ rfl
theorem xNothing_ok (hS : SRel φ st w) {rt : Array TypeId} {m : Mark} {args : List Value} {as : Array Value} {k : Value → St → Rs β} {r : β} (h : ext P st rt .nothing args k = .ok r) : Act P φ st w ((fun _ => do mark m; pure Extern.Race.none_ : Array Value → Sem Value) as) k r := by
  unfold ext at h
  split at h <;> first | (cases h; done) | contradiction | skip
  exact ⟨_, st, φ, .tuple #[], w, rfl, .refl hS, und_rel, h⟩

theorem args3 {t u v : Value} {as : Array Value} (h : LRel φ [t, u, v] as.toList) : ∃ t' u' v', as = #[t', u', v'] ∧ VRel φ t t' ∧ VRel φ u u' ∧ VRel φ v v' := by
  obtain ⟨l⟩ := as
  match l, h with
  | [t', u', v'], h => exact ⟨t', u', v', rfl, h.2 0 t t' rfl rfl, h.2 1 u u' rfl rfl, h.2 2 v v' rfl rfl⟩
  | [], h => exact absurd h.1 (by simp)
  | [_], h => exact absurd h.1 (by simp)
  | [_, _], h => exact absurd h.1 (by simp)
  | _ :: _ :: _ :: _ :: _, h => exact absurd h.1 (by simp)
theorem xCas_ok (hS : SRel φ st w) {kd : IntKind} {rt : Array TypeId} {args : List Value} {as : Array Value} {k : Value → St → Rs β} {r : β} (h : ext P st rt (.cas kd) args k = .ok r) (hl : LRel φ args as.toList) :
    Act P φ st w (Extern.Atomic.casT (.int kd) as) k r := by
  unfold ext at h
  split at h <;> first | (cases h; done) | contradiction | skip
  rename_i kd' b o ko old kn new heq
  cases heq
  split at h <;> first | (cases h; done) | skip
  rename_i l e s opn fz hb
  obtain ⟨v, h1, h2⟩ := Rs.bind_ok h
  split at h2 <;> first | (cases h2; done) | skip
  rename_i kv n
  obtain ⟨h3, h4⟩ := ifb_no h2
  obtain ⟨h5, h6⟩ := ifb_no h4
  have hk : kd = kv := of_decide_eq_true h3
  subst hk
  have hno : n = old := eq_of_beq h5
  subst hno
  obtain ⟨p', o', n', rfl, hp, ho, hn⟩ := args3 hl
  cases ho
  cases hn
  cases hp with
  | @ptr _ L _ hL =>
    obtain ⟨v', c1, c2⟩ := cellAt hS hb hL (Rs.of_ok h1)
    cases c2
    obtain ⟨st', w', r1, r2, r3, _⟩ := turn_ok (P := P) hS hL h6 (LRel.cons (.int kn new) (.nil φ))
    have hst := store_as r1 rfl c1 rfl .atomic
    obtain ⟨c, fr, hw, _⟩ := hS.mem.cellsAt hb hL
    have hfr : w.frozen? ⟨L.blk, L.base + o, none⟩ = false := by
      rw [run_store _ _ _ _ _ rfl, c1] at hst
      cases hq : w.frozen? ⟨L.blk, L.base + o, none⟩ with
      | false => rfl
      | true => simp [hq] at hst
    have ht : (Extern.Atomic.touchesFrozen ⟨L.blk, L.base + o, none⟩).run P w = .ok false w := by
      unfold Extern.Atomic.touchesFrozen viewAt
      simp [shape_of hw, hfr]
    refine ⟨_, st', φ, _, w', ?_, r2, .bool true, r3⟩
    show Sem.run P (asAddr (.pointer (some ⟨L.blk, L.base + o, none⟩)) >>= fun a => _) w = _
    simp only [asAddr, Sem.run_bind, Sem.run_pure, Result.andThen_ok, ht, Bool.false_eq_true, if_false, Extern.Atomic.read, run_load, c1, if_true]
    show Sem.run P (pure (n == n) >>= fun eq => if eq = true then (store ⟨L.blk, L.base + o, none⟩ (.int kn new) .atomic >>= fun _ => pure (Value.bool eq)) else pure (Value.bool eq)) w = _
    simp only [beq_self_eq_true, Sem.run_bind, Sem.run_pure, Result.andThen_ok, if_true, hst]

theorem digits_size : ∀ (n t : Nat) (acc : Array Value), (Extern.BytealgMakeNoZero.digits n t acc).size = acc.size + n
  | 0, _, _ => rfl
  | n + 1, t, acc => by
    unfold Extern.BytealgMakeNoZero.digits
    rw [digits_size n]
    simp
    omega
theorem xMake_ok (hS : SRel φ st w) {ps rt : Array TypeId} {args : List Value} {as : Array Value} {k : Value → St → Rs β} {r : β} (h : ext P st rt .makeNoZero args k = .ok r) (hl : LRel φ args as.toList) : Act P φ st w (Extern.BytealgMakeNoZero.makeNoZero ps rt as) k r := by
  unfold ext at h
  split at h <;> first | (cases h; done) | contradiction | skip
  rename_i n _
  obtain ⟨t, h1, h2⟩ := Rs.bind_ok h
  obtain ⟨u, h3, h4⟩ := Rs.bind_ok h2
  split at h4 <;> first | (cases h4; done) | skip
  rename_i e
  obtain ⟨h5, h6⟩ := ifb_no h4
  rw [St.new_eq] at h6
  obtain ⟨p', rfl, hp⟩ := args1 hl
  cases hp
  have hn : n ≤ 1073741824 := by simpa using h5
  have run : ∃ cap d c, n ≤ cap ∧ c.size = cap ∧ (Extern.BytealgMakeNoZero.makeNoZero ps rt #[.int .i64 (Int.ofNat n)]).run P w = .ok (.slice (some ⟨w.heap.size, 0, none⟩) n cap) { w with heap := w.heap.push (.cells c e), drawn := d } := by
    refine ⟨(Question.appendCap n 0 e).cut (w.tape w.drawn (.appendCap n 0 e)), w.drawn + 2,
      Extern.BytealgMakeNoZero.digits ((Question.appendCap n 0 e).cut (w.tape w.drawn (.appendCap n 0 e))) ((Question.extern "internal/bytealg.MakeNoZero.bytes" 0).cut (w.tape (w.drawn + 1) (.extern "internal/bytealg.MakeNoZero.bytes" 0))) #[], Nat.le_add_right _ _, ?_, ?_⟩
    · rw [digits_size]; simp
    · have hnf : (Question.appendCap n 0 e).forced = false := rfl
      have hnf2 : (Question.extern "internal/bytealg.MakeNoZero.bytes" 0).forced = false := rfl
      have hn1 : ¬ ((n : Int) < 0) := by omega
      have hn2 : ¬ ((n : Int) > 2 ^ 48) := by omega
      unfold Extern.BytealgMakeNoZero.makeNoZero
      rw [Rs.of_ok h1]
      show Sem.run P (underlying t >>= _) w = _
      simp only [Sem.run_bind, undT_run h3, Result.andThen_ok, Int.ofNat_eq_natCast, hn1, hn2, decide_false, Bool.or_false, Bool.false_eq_true, if_false, Int.toNat_natCast, run_choose, hnf, hnf2, run_askRoom, newRow, run_newObj, Sem.run_pure]
  obtain ⟨cap, d, c, k1, k2, k3⟩ := run
  have hO : ∀ ψ : Phi, φ.le ψ → ORel ψ ⟨w.heap.size, 0, 1, cap⟩ (.cells [] e 1 true (0, 0)) (.cells c e (0, 0)) := fun ψ _ =>
    .room (L := ⟨w.heap.size, 0, 1, cap⟩) (by simp) (by simp [k2]) (by simp) (fun i v hv => by simp at hv) (frozen_zero _ _) fun i hi => ⟨_, Array.getElem?_eq_getElem (by simp at hi ⊢; omega)⟩
  have hp := Post.newAt hS (.cells [] e 1 true (0, 0)) (.cells c e) ⟨w.heap.size, 0, 1, cap⟩ st.next (st.next + 1) d (hS.fresh _ (Nat.le_refl _)) (Nat.le_refl _) (Nat.lt_succ_self _) (Nat.le_succ _) rfl hO
  refine ⟨_, _, _, _, _, k3, hp, ?_, h6⟩
  have := VRel.room (φ := φ.add st.next ⟨w.heap.size, 0, 1, cap⟩) (b := st.next) (n := n) (c := cap) (j := 0) (L := ⟨w.heap.size, 0, 1, cap⟩) (Phi.add_same _ _ _) (by simp) (by simp) k1
  simpa using this
end
end Go.Proofs.YtihplijjkcdcjaaGreatDoor.Abs

/-
  All functions without a body.
-/
namespace Go.Proofs.YtihplijjkcdcjaaGreatDoor.Abs
section
variable {P : Program} {φ : Phi} {st : St} {w : World} {β : Type}

theorem lookup_mem {α : Type} {n : String} {x : α} : ∀ {l : List (String × α)}, l.lookup n = some x → (n, x) ∈ l
  | [], h => by cases h
  | (m, y) :: l, h => by
    rw [List.lookup_cons] at h
    split at h
    · rename_i he
      obtain rfl : n = m := by simpa using he
      cases h
      exact List.mem_cons_self
    · exact List.mem_cons_of_mem _ (lookup_mem h)

theorem look_ofT {fn : Func} {n : String} {e : Extern.Typed} (hn : fn.name = n) (ho : fn.origin = "") (h1 : (Extern.allGenericRows.lookup n).isNone = true) (h2 : Extern.allTypedRows.lookup n = some e)
    (h4 : (Extern.allNextRows.lookup n).isNone = true) : Extern.findNext fn = none ∧ Extern.find fn = some (e fn.params fn.resultTypes) := by
  have h5 : (Extern.allNextRows.lookup "").isNone = true := by rfl
  rw [Option.isNone_iff_eq_none] at h1 h4 h5
  constructor
  · simp only [Extern.findNext, hn, ho, h4, h5]
    rfl
  · simp only [Extern.find, hn, h1, h2]
    rfl

theorem ext_ok {fn : Func} {x : Ext} (hx : extOf fn.name = some x) (ho : fn.origin = "") (hS : SRel φ st w) {args : List Value} {as : Array Value} {k : Value → St → Rs β} {r : β}
    (h : ext P st fn.resultTypes x args k = .ok r) (hl : LRel φ args as.toList) : fn.name ≠ "runtime.NumGoroutine" ∧ ∃ e, Extern.findNext fn = none ∧ Extern.find fn = some e ∧ Act P φ st w (e as) k r := by
  have key : ∀ {e : Array Value → Sem Value}, (Extern.findNext fn = none ∧ Extern.find fn = some e) → Act P φ st w (e as) k r → ∃ e, Extern.findNext fn = none ∧ Extern.find fn = some e ∧ Act P φ st w (e as) k r :=
    fun h1 h2 => ⟨_, h1.1, h1.2, h2⟩
  have hm := lookup_mem hx
  generalize hn : fn.name = n at hm
  unfold extTable at hm
  simp only [List.mem_cons, Prod.mk.injEq, List.not_mem_nil, or_false] at hm
  rcases hm with ⟨e, rfl⟩ | ⟨e, rfl⟩ | ⟨e, rfl⟩ | ⟨e, rfl⟩ | ⟨e, rfl⟩ | ⟨e, rfl⟩ | ⟨e, rfl⟩ | ⟨e, rfl⟩ | ⟨e, rfl⟩ | ⟨e, rfl⟩ | ⟨e, rfl⟩ | ⟨e, rfl⟩ | ⟨e, rfl⟩ | ⟨e, rfl⟩ | ⟨e, rfl⟩ | ⟨e, rfl⟩ | ⟨e, rfl⟩ | ⟨e, rfl⟩ | ⟨e, rfl⟩ | ⟨e, rfl⟩ | ⟨e, rfl⟩ <;> subst e <;> refine ⟨by simp, ?_⟩
  · exact key (look_of hn ho (by rfl) (by rfl) (e := Extern.Atomic.update (Op.intArith .add) .i64 true) (by rfl) (by rfl)) (xAdd_ok hS h hl)
  · exact key (look_of hn ho (by rfl) (by rfl) (e := Extern.Atomic.update (Op.intArith .add) .i32 true) (by rfl) (by rfl)) (xAdd_ok hS h hl)
  · exact key (look_of hn ho (by rfl) (by rfl) (e := Extern.Atomic.update (Op.intArith .add) .u64 true) (by rfl) (by rfl)) (xAdd_ok hS h hl)
  · exact key (look_of hn ho (by rfl) (by rfl) (e := Extern.Atomic.loadT (.int .i64)) (by rfl) (by rfl)) (xLoad_ok hS h hl)
  · exact key (look_of hn ho (by rfl) (by rfl) (e := Extern.Atomic.loadT (.int .u64)) (by rfl) (by rfl)) (xLoad_ok hS h hl)
  · exact key (look_of hn ho (by rfl) (by rfl) (e := Extern.Atomic.loadT (.int .u32)) (by rfl) (by rfl)) (xLoad_ok hS h hl)
  · exact key (look_of hn ho (by rfl) (by rfl) (e := Extern.Atomic.storeT) (by rfl) (by rfl)) (xStore_ok hS h hl)
  · exact key (look_of hn ho (by rfl) (by rfl) (e := Extern.Atomic.casT (.int .i32)) (by rfl) (by rfl)) (xCas_ok hS h hl)
  · exact key (look_of hn ho (by rfl) (by rfl) (e := Extern.AbiNoEscape.same) (by rfl) (by rfl)) (xSame_ok hS h hl)
  · exact key (look_of hn ho (by rfl) (by rfl) (e := Extern.MapsClone.clone) (by rfl) (by rfl)) (xClone_ok hS h hl)
  · unfold ext at h; split at h <;> first | (cases h; done) | contradiction
  · unfold ext at h; split at h <;> first | (cases h; done) | contradiction
  · exact key (look_of hn ho (by rfl) (by rfl) (e := Extern.BytealgIndexByte.indexByte) (by rfl) (by rfl)) (xIndexByte_ok hS h hl)
  · exact key (look_of hn ho (by rfl) (by rfl) (e := Extern.BytealgIndexByte.indexByte) (by rfl) (by rfl)) (xIndexByte_ok hS h hl)
  · exact key (look_of hn ho (by rfl) (by rfl) (e := Extern.BytealgCompare.compare) (by rfl) (by rfl)) (xCmp_ok hS h hl)
  · exact key (look_of hn ho (by rfl) (by rfl) (e := Extern.BytealgCount.count) (by rfl) (by rfl)) (xCount_ok hS h hl)
  · exact key (look_of hn ho (by rfl) (by rfl) (e := fun _ => do mark .disable; pure Extern.Race.none_) (by rfl) (by rfl)) (xNothing_ok (m := .disable) (as := as) hS h)
  · exact key (look_of hn ho (by rfl) (by rfl) (e := fun _ => do mark .enable; pure Extern.Race.none_) (by rfl) (by rfl)) (xNothing_ok (m := .enable) (as := as) hS h)
  · exact key (look_of hn ho (by rfl) (by rfl) (e := Extern.Race.marked .acquire) (by rfl) (by rfl)) (xTouch_ok (m := .acquire) hS h hl)
  · exact key (look_of hn ho (by rfl) (by rfl) (e := Extern.Race.marked .releaseMerge) (by rfl) (by rfl)) (xTouch_ok (m := .releaseMerge) hS h hl)
  · exact key (look_ofT hn ho (by rfl) (e := Extern.BytealgMakeNoZero.makeNoZero) (by rfl) (by rfl)) (xMake_ok hS h hl)

/-- a function without a body, called -/
theorem callExt_ok {f : FuncId} {fn : Func} {x : Ext} (hf : P.funcs[f]? = some fn) (hb : fn.body = none) (hx : extOf fn.name = some x) (ho : fn.origin = "") (hS : SRel φ st w) {args : List Value} {as : Array Value} {k : Value → St → Rs β} {r : β}
    (h : ext P st fn.resultTypes x args k = .ok r) (hl : LRel φ args as.toList) : ∃ v st' ψ v' w', (callFunc f as).run P w = .ok (.value v') w' ∧ Post φ st w ψ st' w' ∧ VRel ψ v v' ∧ k v st' = .ok r := by
  obtain ⟨h0, e, h1, h2, v, st', ψ, v', w', h3, h4⟩ := ext_ok hx ho hS h hl
  exact ⟨v, st', ψ, v', w', by rw [run_ext (w := w) (args := as) hf h0 hb h1 h2]; simp [h3], h4⟩
end
end Go.Proofs.YtihplijjkcdcjaaGreatDoor.Abs

/-
  Operations as steps of a region.
-/
namespace Go.Proofs.YtihplijjkcdcjaaGreatDoor.Abs
section
set_option linter.unusedVariables false
variable {P : Program} {φ : Phi} {w : World}

/-- calls put off -/
inductive DRel (φ : Phi) : Deferred → Deferred → Prop where
  | fn {f f' : Fn} {c c' a a' : Array Value} (hf : FRel φ f f') (hc : LRel φ c.toList c'.toList) (ha : LRel φ a.toList a'.toList) : DRel φ ⟨.fn f c, a⟩ ⟨.fn f' c', a'⟩
  | mark {r : Nat} {L : Loc} (h : φ r = some L) : DRel φ ⟨.collected r, #[]⟩ ⟨.collected L.blk, #[]⟩
inductive DsRel (φ : Phi) : List Deferred → List Deferred → Prop where
  | nil : DsRel φ [] []
  | cons {d d' : Deferred} {l l' : List Deferred} (h : DRel φ d d') (k : DsRel φ l l') : DsRel φ (d :: l) (d' :: l')
theorem DRel.mono {φ ψ : Phi} (h : φ.le ψ) {d d' : Deferred} (k : DRel φ d d') : DRel ψ d d' := by
  cases k with
  | fn hf hc ha => exact .fn (hf.mono h) (hc.mono h) (ha.mono h)
  | mark e => exact .mark (h _ _ e)
theorem DsRel.mono {φ ψ : Phi} (h : φ.le ψ) {d d' : List Deferred} (k : DsRel φ d d') : DsRel ψ d d' := by
  induction k with
  | nil => exact .nil
  | cons a _ ih => exact .cons (a.mono h) ih
theorem DsRel.append {φ : Phi} {a a' b b' : List Deferred} (h : DsRel φ a a') (k : DsRel φ b b') : DsRel φ (a ++ b) (a' ++ b') := by
  induction h with
  | nil => exact k
  | cons x _ ih => exact .cons x ih

/-- who is called -/
inductive TgRel (φ : Phi) : Target → Target → Prop where
  | fn {f f' : Fn} {c c' : Array Value} (hf : FRel φ f f') (hc : LRel φ c.toList c'.toList) : TgRel φ (.fn f c) (.fn f' c')

/-- where a call comes back to -/
def back (kd : CallKind) (fr : Frame) (v : Value) : Frame :=
  match kd with
  | .normal => fr.finish v
  | _ => fr
def BackOk (kd : CallKind) (fr : Frame) : Prop := kd = .normal ∨ (kd = .deferred ∧ fr.mode = .returning)
/-- what was begun comes to its end -/
def Ran (P : Program) (kd : CallKind) (fr : Frame) (cs : List Frame) (n : Next) (w : World) (v : Value) (w' : World) : Prop :=
  match n with
  | .value u => u = v ∧ w = w'
  | .skip => undef = v ∧ w = w'
  | .enter f args => Steps P (lone (Frame.enter P f args kd) (fr :: cs) w) (lone (back kd fr v) cs w')
  | .round l f tmps as bd => Steps P (lone (Frame.round l f tmps as bd kd) (fr :: cs) w) (lone (back kd fr v) cs w')
  | _ => False
theorem Ran.value (kd : CallKind) (fr : Frame) (cs : List Frame) (v : Value) (w : World) : Ran P kd fr cs (.value v) w v w := ⟨rfl, rfl⟩
theorem Ran.skip (kd : CallKind) (fr : Frame) (cs : List Frame) (w : World) : Ran P kd fr cs .skip w undef w := ⟨rfl, rfl⟩
/-- calls that the evaluator answers -/
def InvOk (P : Program) (Sm : Summ) (ih : Rq → Rs Ans) : Prop :=
  ∀ t args s r, ih (.inv t args s) = .ok r → ∀ (kd : CallKind) (fr : Frame) (cs : List Frame), BackOk kd fr → (kd = .normal ∨ ∀ f c, t = .fn f c → noSm Sm f = true) → ∀ (φ : Phi) (w : World) (t' : Target) (args' : Array Value), SRel φ s w → TgRel φ t t' → LRel φ args args'.toList →
    ∃ v s' ψ n w1 v' w', r = .val v s' ∧ (invoke t' args').run P w = .ok n w1 ∧ Ran P kd fr cs n w1 v' w' ∧ Post φ s w ψ s' w' ∧ VRel ψ v v'
/-- an operation, done -/
def Does (P : Program) (fr : Frame) (cs : List Frame) (rd : Option Nat) (ρ' : Operand → Value) (o : Oper) (w : World) (v' : Value) (ds' : List Deferred) (w' : World) : Prop :=
  ∃ n w1, (execOp ρ' o).run P w = .ok n w1 ∧ ((ds' = [] ∧ Ran P .normal fr cs n w1 v' w' ∧ ∀ c, o.op ≠ .defer c) ∨ (rd = none ∧ ∃ d, n = .defer d ∧ ds' = [d] ∧ v' = undef ∧ w1 = w'))

theorem cvOf_new {s d : TypeId} (h : cvOf P s d = .same) : s = d ∧ ∃ e, P.underlying s = some (.slice e) ∧ P.underlying e = some (.int .u8) := by
  unfold cvOf at h
  split at h <;> first | (cases h; done) | skip
  rename_i e0 e h1 h2
  split at h <;> first | (cases h; done) | skip
  rename_i h3
  rw [ifb_eq] at h
  split at h <;> first | (cases h; done) | skip
  rename_i h4
  have := Nat.eq_of_beq_eq_true h4
  subst this
  exact ⟨rfl, e, h2, h3⟩

theorem doOp_ok {Sm : Summ} {ih : Rq → Rs Ans} (hI : InvOk P Sm ih) (fr : Frame) (cs : List Frame) {rd rd' : Option Nat} (hrd : rd = none → rd' = none) {o : Oper} {ρ : Operand → Rs Value} {ρ' : Operand → Value} (hρ : ∀ x v, ρ x = .ok v → VRel φ v (ρ' x)) {s : St} {k : Kn} {r : Ans} (h : doOp P ih rd o ρ s k = .ok r) (hS : SRel φ s w) :
    ∃ v ds s' ψ v' ds' w', Post φ s w ψ s' w' ∧ VRel ψ v v' ∧ DsRel ψ ds ds' ∧ Does P fr cs rd' ρ' o w v' ds' w' ∧ k v ds s' = .ok r := by
  have fin : ∀ {sm : Sem Next}, (∀ c, o.op ≠ .defer c) → execOp ρ' o = sm → ActN P φ s w sm (goOn2 k) r → ∃ v ds s' ψ v' ds' w', Post φ s w ψ s' w' ∧ VRel ψ v v' ∧ DsRel ψ ds ds' ∧ Does P fr cs rd' ρ' o w v' ds' w' ∧ k v ds s' = .ok r := by
    intro sm hd he ha
    obtain ⟨v, st', ψ, n, w', h1, h2, h3, h4⟩ := ha
    rcases h3 with ⟨v', rfl, h3⟩ | ⟨rfl, rfl⟩
    · exact ⟨v, [], st', ψ, v', [], w', h2, h3, .nil, ⟨_, _, he ▸ h1, .inl ⟨rfl, Ran.value _ _ _ _ _, hd⟩⟩, h4⟩
    · exact ⟨_, [], st', ψ, undef, [], w', h2, und_rel, .nil, ⟨_, _, he ▸ h1, .inl ⟨rfl, Ran.skip _ _ _ _, hd⟩⟩, h4⟩
  have pure_ : (∀ c, o.op ≠ .defer c) → goOn o s k (pOp P s.heap o.op ρ) = .ok r → ∃ v ds s' ψ v' ds' w', Post φ s w ψ s' w' ∧ VRel ψ v v' ∧ DsRel ψ ds ds' ∧ Does P fr cs rd' ρ' o w v' ds' w' ∧ k v ds s' = .ok r := by
    intro hd e
    unfold goOn at e
    obtain ⟨v, h1, h2⟩ := Rs.bind_ok e
    have h1' : pOp P s.heap o.op ρ = .ok v := h1
    obtain ⟨v', h3, h4⟩ := pOp_ok (o := o) hS.mem hρ h1'
    exact ⟨v, [], s, φ, v', [], w, .refl hS, h4, .nil, ⟨_, _, h3, .inl ⟨rfl, Ran.value _ _ _ _ _, hd⟩⟩, h2⟩
  have new_ : (∀ c, o.op ≠ .defer c) → goNew s k (aOp P o.op ρ) = .ok r → ∃ v ds s' ψ v' ds' w', Post φ s w ψ s' w' ∧ VRel ψ v v' ∧ DsRel ψ ds ds' ∧ Does P fr cs rd' ρ' o w v' ds' w' ∧ k v ds s' = .ok r := by
    intro hd e
    unfold goNew at e
    obtain ⟨⟨x, f⟩, h1, h2⟩ := Rs.bind_ok e
    rw [St.new_eq] at h2
    obtain ⟨b, L, v', d, h3, h4, h5, h6⟩ := aOp_ok (w := w) (φ := φ) hρ h1
    have hp := Post.newAt hS x b L s.next (s.next + 1) d (hS.fresh _ (Nat.le_refl _)) (Nat.le_refl _) (Nat.lt_succ_self _) (Nat.le_succ _) h4 h5
    exact ⟨_, [], _, _, v', [], _, hp, h6 _ _ hp.le (Phi.add_same _ _ _), .nil, ⟨_, _, h3, .inl ⟨rfl, Ran.value _ _ _ _ _, hd⟩⟩, h2⟩
  have nod : ∀ {op : Op}, o.op = op → (∀ c, op ≠ .defer c) → ∀ c, o.op ≠ .defer c := fun e n => e ▸ n
  unfold doOp at h
  split at h
  · rename_i c hc
    have hd := nod hc (fun _ e => by cases e)
    unfold goCall at h
    split at h
    · rename_i f hf
      obtain ⟨fv, h1, h2⟩ := Rs.bind_ok h
      obtain ⟨args, h3, h4⟩ := Rs.bind_ok h2
      have hfv := hρ _ _ h1
      have hargs := mapR_ok hρ h3
      unfold goInv at h4
      split at h4 <;> first | (cases h4; done) | skip
      rename_i fn first cap
      unfold goInv2 at h4
      split at h4 <;> first | (cases h4; done) | skip
      rename_i v s' h5
      have h6 := hI _ _ _ _ h5
      generalize hz : ρ' f = z at hfv
      cases hfv with
      | @func _ fn' _ ys _ us hf1 s1 s2 s3 s4 =>
        have ha : LRel φ (first.toList ++ args) (ys ++ c.args.map ρ').toList := by
          rw [Array.toList_append]
          exact (LRel.of_arr s1 s3).append (by simpa using hargs)
        obtain ⟨v2, s2, ψ, n, w1, v', w', e2, h7, h8, h9, h10⟩ := h6 .normal fr cs (.inl rfl) (.inl rfl) φ w (.fn fn' us) (ys ++ c.args.map ρ') hS (.fn hf1 (LRel.of_arr s2 s4)) ha
        cases e2
        refine ⟨v, [], s', ψ, v', [], w', h9, h10, .nil, ⟨n, w1, ?_, .inl ⟨rfl, h8, hd⟩⟩, h4⟩
        unfold execOp
        rw [hc]
        simp only [resolve, hf, hz, Deferred.ofValue, Sem.run_bind, Sem.run_pure, Result.andThen_ok]
        exact h7
    · rename_i b hb
      obtain ⟨vs, h1, h2⟩ := Rs.bind_ok h
      have hargs := mapR_ok hρ h1
      refine fin (sm := builtin b c.argTypes o.type (c.args.map fun | .const _ => true | _ => false) (c.args.map ρ')) hd ?_ (eBuiltin_ok hS h2 (by simpa using hargs))
      unfold execOp
      rw [hc]
      simp only [resolve, hb]
      rfl
    · cases h
  · rename_i hc; exact new_ (nod hc fun _ e => by cases e) h
  · rename_i hc; exact new_ (nod hc fun _ e => by cases e) h
  · rename_i hc; exact new_ (nod hc fun _ e => by cases e) h
  · rename_i hc; exact new_ (nod hc fun _ e => by cases e) h
  · rename_i hc; exact new_ (nod hc fun _ e => by cases e) h
  · rename_i t d x hc
    have hd := nod hc (fun _ e => by cases e)
    split at h
    · exact new_ hd h
    · rename_i hcv
      obtain ⟨rfl, e, he1, he2⟩ := cvOf_new hcv
      obtain ⟨a, h1, h2⟩ := Rs.bind_ok h
      refine fin hd ?_ (eBytes_ok hS he1 he2 h2 (hρ _ _ h1)).next
      unfold execOp
      rw [hc]
    · exact pure_ hd h
  · rename_i t p x hc
    obtain ⟨a, h1, h'⟩ := Rs.bind_ok h
    obtain ⟨b, h2, h'⟩ := Rs.bind_ok h'
    refine fin (nod hc (fun _ e => by cases e)) ?_ (eStore_ok hS h' (hρ _ _ h1) (hρ _ _ h2)).next
    unfold execOp
    rw [hc]
  · rename_i t m q x hc
    obtain ⟨a, h1, h'⟩ := Rs.bind_ok h
    obtain ⟨b, h2, h'⟩ := Rs.bind_ok h'
    obtain ⟨c, h3, h'⟩ := Rs.bind_ok h'
    refine fin (nod hc (fun _ e => by cases e)) ?_ (eMapPut_ok hS h' (hρ _ _ h1) (hρ _ _ h2) (hρ _ _ h3)).next
    unfold execOp
    rw [hc]
  · rename_i t m q x hc
    obtain ⟨a, h1, h'⟩ := Rs.bind_ok h
    obtain ⟨b, h2, h'⟩ := Rs.bind_ok h'
    obtain ⟨c, h3, h'⟩ := Rs.bind_ok h'
    refine fin (nod hc (fun _ e => by cases e)) ?_ (eMapPut_ok hS h' (hρ _ _ h1) (hρ _ _ h2) (hρ _ _ h3)).next
    unfold execOp
    rw [hc]
  · rename_i t x hc
    obtain ⟨a, h1, h'⟩ := Rs.bind_ok h
    refine fin (nod hc (fun _ e => by cases e)) ?_ (eRange_ok hS h' (hρ _ _ h1)).next
    unfold execOp
    rw [hc]
  · rename_i it b hc
    obtain ⟨a, h1, h'⟩ := Rs.bind_ok h
    refine fin (nod hc (fun _ e => by cases e)) ?_ (eNext_ok (t := o.type) hS h' (hρ _ _ h1)).next
    unfold execOp
    rw [hc]
  · rename_i it hc
    obtain ⟨a, h1, h'⟩ := Rs.bind_ok h
    refine fin (nod hc (fun _ e => by cases e)) ?_ (eEntry_ok hS h' (hρ _ _ h1)).next
    unfold execOp
    rw [hc]
  · rename_i t m q hc
    obtain ⟨a, h1, h'⟩ := Rs.bind_ok h
    obtain ⟨b, h2, h'⟩ := Rs.bind_ok h'
    refine fin (nod hc (fun _ e => by cases e)) ?_ (eMapEntry_ok hS h' (hρ _ _ h1) (hρ _ _ h2)).next
    unfold execOp
    rw [hc]
  · rename_i t m b x hc
    obtain ⟨a, h1, h'⟩ := Rs.bind_ok h
    obtain ⟨c, h2, h'⟩ := Rs.bind_ok h'
    obtain ⟨d, h3, h'⟩ := Rs.bind_ok h'
    refine fin (nod hc (fun _ e => by cases e)) ?_ (eEntryStore_ok (t := t) hS h' (hρ _ _ h1) (hρ _ _ h2) (hρ _ _ h3)).next
    unfold execOp
    rw [hc]
  · rename_i c hc
    unfold goDefer at h
    split at h <;> first | (cases h; done) | skip
    rename_i f hf
    obtain ⟨fv, h1, h2⟩ := Rs.bind_ok h
    obtain ⟨args, h3, h4⟩ := Rs.bind_ok h2
    have hfv := hρ _ _ h1
    have hargs := mapR_ok hρ h3
    unfold goDefer2 at h4
    split at h4 <;> first | (cases h4; done) | skip
    rename_i fn first cap
    generalize hz : ρ' f = z at hfv
    cases hfv with
    | @func _ fn' _ ys _ us hf1 s1 s2 s3 s4 =>
      have ha : LRel φ (first.toList ++ args) (ys ++ c.args.map ρ').toList := by
        rw [Array.toList_append]
        exact (LRel.of_arr s1 s3).append (by simpa using hargs)
      refine ⟨_, _, s, φ, undef, [⟨.fn fn' us, ys ++ c.args.map ρ'⟩], w, .refl hS, und_rel, .cons (.fn hf1 (LRel.of_arr s2 s4) ha) .nil, ⟨_, w, ?_, .inr ⟨hrd rfl, _, rfl, rfl, rfl, rfl⟩⟩, h4⟩
      unfold execOp
      rw [hc]
      simp only [resolve, hf, hz, Deferred.ofValue, Sem.run_bind, Sem.run_pure, Result.andThen_ok]
  · rename_i h1 h2 h3 h4 h5 h6 h7 h8 h9 h10 h11 h12 h13 h14 h15
    exact pure_ (fun c e => by simp_all) h
end
end Go.Proofs.YtihplijjkcdcjaaGreatDoor.Abs

/-
  Frames; a region whose order is fixed; codes' ways out.
-/
namespace Go.Proofs.YtihplijjkcdcjaaGreatDoor.Abs
section
set_option linter.unusedVariables false
variable {P : Program} {φ : Phi} {w : World}

/-- what stays of an activation -/
structure Fm where
  fn : FuncId
  kind : CallKind
  rd : Option Nat
def Fm.at (b : Fm) (ts : Array Value) (ds : List Deferred) (todo : List Item) : Frame :=
  { fn := b.fn, tmps := ts, todo, defers := ds, mode := .run, kind := b.kind, roundOf := b.rd }
def tev (ts : Array Value) : Operand → Value
  | .tmp t => ts.getD t undef
  | .const v => v
  | .global g => .pointer (some ⟨g, 0, none⟩)
  | .func f => .func (.func f) #[] #[]
def putT (ts : Array Value) (d : Option Tmp) (v : Value) : Array Value :=
  match d with
  | some d => ts.setIfInBounds d v
  | none => ts
theorem Fm.eval_at (b : Fm) (ts : Array Value) (ds : List Deferred) (todo : List Item) : (b.at ts ds todo).eval = tev ts := by
  funext x
  cases x <;> rfl
theorem Fm.finish_at (b : Fm) (ts : Array Value) (ds : List Deferred) (ops : Array Oper) (i : Nat) (rest : List Nat) (k : List Item) (v : Value) :
    (b.at ts ds (.inRegion ops (i :: rest) :: k)).finish v = b.at (putT ts ((ops[i]?).bind (·.dst)) v) ds (.inRegion ops rest :: k) := by
  cases h : (ops[i]?).bind (·.dst) <;> simp [Frame.finish, Fm.at, putT, h]

inductive RdRel (φ : Phi) : Option Nat → Option Nat → Prop where
  | no : RdRel φ none none
  | of {l : Nat} {L : Loc} (h : φ l = some L) : RdRel φ (some l) (some L.blk)
theorem RdRel.mono {φ ψ : Phi} (h : φ.le ψ) {a b : Option Nat} (k : RdRel φ a b) : RdRel ψ a b := by
  cases k with
  | no => exact .no
  | of e => exact .of (h _ _ e)
theorem RdRel.isNone {a b : Option Nat} (k : RdRel φ a b) (h : a = none) : b = none := by
  cases k with
  | no => rfl
  | of e => cases h

structure ARel (φ : Phi) (a : Ac) (ts : Array Value) (ds : List Deferred) : Prop where
  tmps : TRel φ a.tmps a.n ts
  dfs : DsRel φ a.dfs ds
theorem ARel.mono {φ ψ : Phi} (h : φ.le ψ) {a : Ac} {ts : Array Value} {ds : List Deferred} (k : ARel φ a ts ds) : ARel ψ a ts ds := ⟨k.tmps.mono h, k.dfs.mono h⟩
/-- operands -/
theorem ev_rel {f : Nat → Option AObj} {n : Nat} (hS : SF φ f n w) {a : Ac} {ts : Array Value} (h : TRel φ a.tmps a.n ts) : ∀ x v, a.ev x = .ok v → VRel φ v (tev ts x) := by
  intro x v e
  cases x with
  | tmp t =>
    obtain ⟨v', h1, h2⟩ := h.2 t v (Rs.of_ok e)
    have : tev ts (.tmp t) = v' := by simp [tev, h1]
    rw [this]
    exact h2
  | const c =>
    obtain ⟨h1, h2⟩ := ifb_no e
    cases h2
    exact (constOk_flat h1).rel φ
  | global g =>
    obtain ⟨h1, h2⟩ := ifb_no e
    cases h2
    have := VRel.ptr (φ := φ) (b := g) (L := ⟨g, 0, 0, 0⟩) 0 (hS.globals g (by simpa using h1))
    simpa [tev] using this
  | func f =>
    cases e
    exact .func (.func f) rfl rfl (fun i v v' h => by simp at h) (fun i v v' h => by simp at h)
/-- a temporary gets a value -/
theorem TRel.put {ts : Tr Value} {n : Nat} {tmps : Array Value} (h : TRel φ ts n tmps) {t : Tmp} {v v' : Value} (ht : t < n) (hv : VRel φ v v') : TRel φ (ts.set t v) n (tmps.setIfInBounds t v') := by
  refine ⟨by simp [h.1], fun j u e => ?_⟩
  rcases Tr.get_set e with ⟨rfl, rfl⟩ | ⟨hne, e'⟩
  · exact ⟨v', by simp [h.1, ht], hv⟩
  · obtain ⟨u', h1, h2⟩ := h.2 j u e'
    exact ⟨u', by rw [Array.getElem?_setIfInBounds_ne (fun x => hne x.symm)]; exact h1, h2⟩
noncomputable def acPut (a : Ac) (o : Option Tmp) (v : Value) (d : List Deferred) : Ac :=
  match o with
  | none => ⟨a.tmps, a.n, d⟩
  | some t => ⟨a.tmps.set t v, a.n, d⟩
theorem ARel.put {a : Ac} {ts : Array Value} {ds ds2 : List Deferred} (h : ARel φ a ts ds) {o : Option Tmp} {v v' : Value} {d : List Deferred} (hv : VRel φ v v') (hd : DsRel φ d ds2) (ht : ∀ t, o = some t → t < a.n) :
    ARel φ (acPut a o v d) (putT ts o v') ds2 := by
  cases o with
  | none => exact ⟨h.tmps, hd⟩
  | some t => exact ⟨h.tmps.put (ht t rfl) hv, hd⟩
theorem goPut_ok {o : Oper} {a : Ac} {k : Ac → St → Rs Ans} {v : Value} {ds : List Deferred} {s : St} {r : Ans} (h : goPut o a k v ds s = .ok r) :
    k (acPut a o.dst v (ds ++ a.dfs)) s = .ok r ∧ ∀ t, o.dst = some t → t < a.n := by
  unfold goPut at h
  simp only [Ac.parts_eq] at h
  unfold acPut
  cases hd : o.dst with
  | none =>
    rw [hd] at h
    refine ⟨?_, fun t e => by cases e⟩
    split at h <;> exact (Ac.put_ok h).1
  | some t =>
    rw [hd] at h
    split at h <;> exact ⟨(Ac.put_ok h).1, (Ac.put_ok h).2⟩

section moves
variable {b : Fm} {ts : Array Value} {ds : List Deferred} {k : List Item} {cs : List Frame}
theorem mv_op_skip {ops : Array Oper} {i : Nat} {rest : List Nat} (h : ((ops[i]?).map (Region.wanted · (yielded ops ts))).getD false = false) :
    Go.step P (lone (b.at ts ds (.inRegion ops (i :: rest) :: k)) cs w) = .next (lone (b.at (putT ts ((ops[i]?).bind (·.dst)) undef) ds (.inRegion ops rest :: k)) cs w) := by
  rw [← Fm.finish_at]
  exact step_lone_go (by
    have h' := h
    simp only [Fm.at] at *
    simp [stepG, stepG.exec, h'])
theorem oper_apply {fr : Frame} {o : Oper} (ho : fr.oper? = some o) (hd : fr.roundOf = none ∨ ∀ c, o.op ≠ .defer c) : stepG.oper P true fr cs none w = stepG.apply P true fr cs none (execOp fr.eval o) w := by
  unfold stepG.oper
  rw [ho]
  simp only
  split
  · rename_i h1 h2
    rcases hd with hd | hd
    · rw [hd] at h1; cases h1
    · exact absurd h2 (hd _)
  · rfl
theorem mv_op {ops : Array Oper} {i : Nat} {rest : List Nat} {o : Oper} (ho : ops[i]? = some o) (hw : Region.wanted o (yielded ops ts) = true) (hd : b.rd = none ∨ ∀ c, o.op ≠ .defer c) :
    stepG P true { frame := b.at ts ds (.inRegion ops (i :: rest) :: k), callers := cs, status := .running, dying := none } w =
      stepG.apply P true (b.at ts ds (.inRegion ops (i :: rest) :: k)) cs none (execOp (tev ts) o) w := by
  have he := Fm.eval_at b ts ds (.inRegion ops (i :: rest) :: k)
  rw [← he, ← oper_apply (P := P) (cs := cs) (w := w) (fr := b.at ts ds (.inRegion ops (i :: rest) :: k)) (o := o) (by simp [Frame.oper?, Fm.at, ho]) hd]
  have h1 : (b.at ts ds (.inRegion ops (i :: rest) :: k)).mode = .run := rfl
  have h2 : (b.at ts ds (.inRegion ops (i :: rest) :: k)).todo = .inRegion ops (i :: rest) :: k := rfl
  have h3 : (b.at ts ds (.inRegion ops (i :: rest) :: k)).tmps = ts := rfl
  generalize b.at ts ds (.inRegion ops (i :: rest) :: k) = fr at *
  simp [stepG, stepG.exec, h1, h2, h3, ho, hw]
theorem mv_region_end {ops : Array Oper} : Go.step P (lone (b.at ts ds (.inRegion ops [] :: k)) cs w) = .next (lone (b.at ts ds k) cs w) :=
  step_lone_go (by simp [stepG, stepG.exec, Fm.at])
/-- AN OPERATION OF A REGION. -/
theorem mv_does {ops : Array Oper} {i : Nat} {rest : List Nat} {o : Oper} {v' : Value} {ds' : List Deferred} {w' : World} (ho : ops[i]? = some o) (hw : Region.wanted o (yielded ops ts) = true) (hd : Does P (b.at ts ds (.inRegion ops (i :: rest) :: k)) cs b.rd (tev ts) o w v' ds' w') :
    Steps P (lone (b.at ts ds (.inRegion ops (i :: rest) :: k)) cs w) (lone (b.at (putT ts o.dst v') (ds' ++ ds) (.inRegion ops rest :: k)) cs w') := by
  obtain ⟨n, w1, h1, h2⟩ := hd
  have hfin : ∀ v, (b.at ts ds (.inRegion ops (i :: rest) :: k)).finish v = b.at (putT ts o.dst v) ds (.inRegion ops rest :: k) := by
    intro v; rw [Fm.finish_at, ho]; rfl
  rcases h2 with ⟨rfl, h3, h4⟩ | ⟨hr, d, rfl, rfl, rfl, rfl⟩
  · have hg := mv_op (P := P) (b := b) (ds := ds) (k := k) (cs := cs) (w := w) (rest := rest) ho hw (.inr h4)
    rw [List.nil_append, ← hfin]
    cases n with
    | value u =>
      obtain ⟨rfl, rfl⟩ : u = v' ∧ w1 = w' := h3
      exact .one (step_lone_go (by rw [hg]; simp [stepG.apply, h1]))
    | skip =>
      obtain ⟨rfl, rfl⟩ : undef = v' ∧ w1 = w' := h3
      exact .one (step_lone_go (by rw [hg]; simp [stepG.apply, h1]))
    | enter f args =>
      have h5 : Go.step P (lone (b.at ts ds (.inRegion ops (i :: rest) :: k)) cs w) = .next (lone (Frame.enter P f args .normal) (b.at ts ds (.inRegion ops (i :: rest) :: k) :: cs) w1) :=
        step_lone_go (by rw [hg]; simp [stepG.apply, h1, Fm.at])
      exact .head h5 h3
    | round l f tmps as bd =>
      have h5 : Go.step P (lone (b.at ts ds (.inRegion ops (i :: rest) :: k)) cs w) = .next (lone (Frame.round l f tmps as bd .normal) (b.at ts ds (.inRegion ops (i :: rest) :: k) :: cs) w1) :=
        step_lone_go (by rw [hg]; simp [stepG.apply, h1, Fm.at])
      exact .head h5 h3
    | _ => exact h3.elim
  · have hg := mv_op (P := P) (b := b) (ds := ds) (k := k) (cs := cs) (w := w) (rest := rest) ho hw (.inl hr)
    refine .one (step_lone_go ?_)
    have : ({ b.at ts ds (.inRegion ops (i :: rest) :: k) with defers := d :: ds } : Frame).finish undef = b.at (putT ts o.dst undef) (d :: ds) (.inRegion ops rest :: k) := by
      have := Fm.finish_at b ts (d :: ds) ops i rest k undef
      rw [ho] at this; exact this
    rw [hg]; simp only [stepG.apply, Sem.runT_eq, h1, GStep.bare_after]
    exact congrArg (fun fr => GStep.go { frame := fr, callers := cs, status := .running, dying := none } w1) this
end moves

/-- is an operation asked for? -/
theorem wanted_rel {ops : Array Oper} {o : Oper} {a : Ac} {ts : Array Value} {w : Bool} (h : wantedA ops o a = .ok w) (hk : ∀ j want t v, o.guard = some (j, want) → (ops[j]?).bind (·.dst) = some t → a.tmps.get t = some v → ∃ v', ts[t]? = some v' ∧ VRel φ v v') :
    Region.wanted o (yielded ops ts) = w := by
  unfold wantedA at h
  unfold Region.wanted
  split at h
  · rename_i hg
    simp only [hg]
    cases h
    rfl
  · rename_i j want hg
    simp only [hg]
    obtain ⟨v, h1, h2⟩ := Rs.bind_ok h
    have h1 := Rs.of_ok h1
    cases h2
    cases h3 : (ops[j]?).bind (·.dst) with
    | none => rw [h3] at h1; cases h1
    | some t =>
      rw [h3] at h1
      obtain ⟨v', h4, h5⟩ := hk j want t v hg h3 h1
      cases h5 <;> simp [yielded, h3, h4, wantedB]
end
end Go.Proofs.YtihplijjkcdcjaaGreatDoor.Abs

/-
  Steps of control.
-/
namespace Go.Proofs.YtihplijjkcdcjaaGreatDoor.Abs
section
set_option linter.unusedVariables false
variable {P : Program} {φ : Phi} {w : World} {b : Fm} {ts : Array Value} {ds : List Deferred} {k : List Item} {cs : List Frame}

theorem mv_skip : Go.step P (lone (b.at ts ds (.code .skip :: k)) cs w) = .next (lone (b.at ts ds k) cs w) := step_lone_go (by simp [stepG, stepG.exec, Fm.at])
theorem mv_label {l : Nat} : Go.step P (lone (b.at ts ds (.code (.label l) :: k)) cs w) = .next (lone (b.at ts ds k) cs w) := step_lone_go (by simp [stepG, stepG.exec, Fm.at])
theorem mv_inBlock {id : Nat} : Go.step P (lone (b.at ts ds (.inBlock id :: k)) cs w) = .next (lone (b.at ts ds k) cs w) := step_lone_go (by simp [stepG, stepG.exec, Fm.at])
theorem mv_inScope {c : Code} : Go.step P (lone (b.at ts ds (.inScope c :: k)) cs w) = .next (lone (b.at ts ds k) cs w) := step_lone_go (by simp [stepG, stepG.exec, Fm.at])
theorem mv_seq {x y : Code} : Go.step P (lone (b.at ts ds (.code (.seq x y) :: k)) cs w) = .next (lone (b.at ts ds (.code x :: .code y :: k)) cs w) := step_lone_go (by simp [stepG, stepG.exec, Fm.at])
theorem mv_cond {c : Operand} {x y : Code} {t : Bool} (h : tev ts c = .bool t) : Go.step P (lone (b.at ts ds (.code (.cond c x y) :: k)) cs w) = .next (lone (b.at ts ds (.code (if t then x else y) :: k)) cs w) :=
  step_lone_go (by
    have := congrFun (Fm.eval_at b ts ds (.code (.cond c x y) :: k)) c
    simp only [Fm.at] at this
    simp [stepG, stepG.exec, Fm.at, this, h])
theorem mv_block {id : Nat} {c : Code} : Go.step P (lone (b.at ts ds (.code (.block id c) :: k)) cs w) = .next (lone (b.at ts ds (.code c :: .inBlock id :: k)) cs w) := step_lone_go (by simp [stepG, stepG.exec, Fm.at])
theorem mv_loop {c : Code} : Go.step P (lone (b.at ts ds (.code (.loop c) :: k)) cs w) = .next (lone (b.at ts ds (.code c :: .inLoop c :: k)) cs w) := step_lone_go (by simp [stepG, stepG.exec, Fm.at])
theorem mv_inLoop {c : Code} : Go.step P (lone (b.at ts ds (.inLoop c :: k)) cs w) = .next (lone (b.at ts ds (.code c :: .inLoop c :: k)) cs w) := step_lone_go (by simp [stepG, stepG.exec, Fm.at])
theorem mv_scope {c : Code} : Go.step P (lone (b.at ts ds (.code (.scope c) :: k)) cs w) = .next (lone (b.at ts ds (.code c :: .inScope c :: k)) cs w) := step_lone_go (by simp [stepG, stepG.exec, Fm.at])
theorem mv_exit {id : Nat} {k' : List Item} (h : exitTo id k = some k') : Go.step P (lone (b.at ts ds (.code (.exit id) :: k)) cs w) = .next (lone (b.at ts ds k') cs w) := step_lone_go (by simp [stepG, stepG.exec, Fm.at, h])
theorem mv_region {id : Nat} {ops : Array Oper} : Go.step P (lone (b.at ts ds (.code (.region id ops false) :: k)) cs w) = .next (lone (b.at ts ds (.inRegion ops (List.range ops.size) :: k)) cs w) := step_lone_go (by simp [stepG, stepG.exec, Fm.at])
theorem mv_draw {id : Nat} {ops : Array Oper} (hm : P.follows .mixedOrders = true) : Go.step P (lone (b.at ts ds (.code (.region id ops true) :: k)) cs w) =
    .next (lone (b.at ts ds (.inRegion ops (Region.linearise .any ops (w.tape w.drawn (.order b.fn id))) :: k)) cs { w with drawn := w.drawn + 1 }) :=
  step_lone_go (by simp [stepG, stepG.exec, Fm.at, choose, Sem.run, Question.forced, Question.cut, Region.schedule, hm])

/-- the ways out of a code -/
def Arr (P : Program) (b : Fm) (it : Item) (ts : Array Value) (ds : List Deferred) (w : World) (e : XE) (ts' : Array Value) (ds' : List Deferred) (w' : World) (k : List Item) (cs : List Frame) : Prop :=
  match e with
    | .normal => Steps P (lone (b.at ts ds (it :: k)) cs w) (lone (b.at ts' ds' k) cs w')
    | .jump c => ∃ k0, Steps P (lone (b.at ts ds (it :: k)) cs w) (lone (b.at ts' ds' (.code c :: k0)) cs w') ∧ ∀ id, c = .exit id → exitTo id k0 = exitTo id k
/-- what an answer to a code says -/
def CodeAns (P : Program) (φ : Phi) (s : St) (w : World) (b : Fm) (it : Item) (ts : Array Value) (ds : List Deferred) (k : List Item) (cs : List Frame) (r : Ans) : Prop :=
  ∃ e a1 s1 ψ w' ts' ds', r = .at e a1 s1 ∧ Post φ s w ψ s1 w' ∧ ARel ψ a1 ts' ds' ∧ Arr P b it ts ds w e ts' ds' w' k cs
/-- what of a frame's list stands for a code -/
def ItemOf (c : Code) (it : Item) : Prop := it = .code c ∨ ∃ x, c = .loop x ∧ it = .inLoop x
def CodeOk (P : Program) (ih : Rq → Rs Ans) : Prop :=
  ∀ fn rd c a s r, ih (.code fn rd c a s) = .ok r → ∀ (φ : Phi) (w : World) (b : Fm) (ts : Array Value) (ds : List Deferred), b.fn = fn → RdRel φ rd b.rd → SRel φ s w → ARel φ a ts ds → ∀ it, ItemOf c it → ∀ k cs, CodeAns P φ s w b it ts ds k cs r
def RunOk (P : Program) (ih : Rq → Rs Ans) : Prop :=
  ∀ fn rd ops l a s r, ih (.run fn rd ops l a s) = .ok r → ∀ (φ : Phi) (w : World) (b : Fm) (ts : Array Value) (ds : List Deferred) (i : Nat) (k : List Item) (cs : List Frame), b.fn = fn → RdRel φ rd b.rd → SRel φ s w → ARel φ a ts ds → l = ops.toList.drop i →
    ∃ a1 s1 ψ w' ts' ds', r = .at .normal a1 s1 ∧ Post φ s w ψ s1 w' ∧ ARel ψ a1 ts' ds' ∧ Steps P (lone (b.at ts ds (.inRegion ops (List.range' i (ops.size - i)) :: k)) cs w) (lone (b.at ts' ds' k) cs w')
def DfrOk (P : Program) (ih : Rq → Rs Ans) : Prop :=
  ∀ l s r, ih (.dfr l s) = .ok r → ∀ (φ : Phi) (w : World) (ds : List Deferred) (fr : Frame) (cs : List Frame), SRel φ s w → DsRel φ l ds → fr.mode = .returning → fr.defers = ds →
    ∃ s1 ψ w', r = .st s1 ∧ Post φ s w ψ s1 w' ∧ Steps P (lone fr cs w) (lone { fr with defers := [] } cs w')

theorem put_rel {β : Type} {a : Ac} {d : Option Tmp} {v v' : Value} {kk : Ac → Rs β} {r : β} (h : a.put d v kk = .ok r) (hA : ARel φ a ts ds) (hv : VRel φ v v') : ∃ a', kk a' = .ok r ∧ ARel φ a' (putT ts d v') ds := by
  cases d with
  | none => exact ⟨a, (Ac.put_ok h).1, hA⟩
  | some t => exact ⟨_, (Ac.put_ok h).1, ⟨hA.tmps.put ((Ac.put_ok h).2 t rfl) hv, hA.dfs⟩⟩
/-- a region whose order is fixed -/
theorem run_step {Sm : Summ} {ih : Rq → Rs Ans} (hI : InvOk P Sm ih) (hR : RunOk P ih) {fn : FuncId} {rd : Option Nat} {ops : Array Oper} {l : List Oper} {a : Ac} {s : St} {r : Ans} (h : onRun P ih fn rd ops l a s = .ok r)
    {φ : Phi} {w : World} {b : Fm} {ts : Array Value} {ds : List Deferred} {i : Nat} {k : List Item} {cs : List Frame} (hb : b.fn = fn) (hrd : RdRel φ rd b.rd) (hS : SRel φ s w) (hA : ARel φ a ts ds) (hl : l = ops.toList.drop i) :
    ∃ a1 s1 ψ w' ts' ds', r = .at .normal a1 s1 ∧ Post φ s w ψ s1 w' ∧ ARel ψ a1 ts' ds' ∧ Steps P (lone (b.at ts ds (.inRegion ops (List.range' i (ops.size - i)) :: k)) cs w) (lone (b.at ts' ds' k) cs w') := by
  have key : ∀ (o : Oper) (l' : List Oper), o :: l' = ops.toList.drop i → ops[i]? = some o ∧ l' = ops.toList.drop (i + 1) ∧ ops.size - i = (ops.size - (i + 1)) + 1 := by
    intro o l' e
    have h1 : ops.toList[i]? = some o := by
      have : (ops.toList.drop i)[0]? = some o := by rw [← e]; rfl
      simpa using this
    have h2 : i < ops.size := by
      have := (List.getElem?_eq_some_iff.1 h1).1
      simpa using this
    refine ⟨by simpa using h1, ?_, by omega⟩
    have : (ops.toList.drop i).tail = l' := by rw [← e]; rfl
    rw [← this, List.tail_drop]
  unfold onRun at h
  split at h
  · cases h
    refine ⟨_, _, φ, w, ts, ds, rfl, .refl hS, hA, ?_⟩
    have : ops.size - i = 0 := by
      have := congrArg List.length hl
      simp at this
      omega
    rw [this]
    exact .one mv_region_end
  · rename_i o l'
    obtain ⟨wb, h1, h2⟩ := Rs.bind_ok h
    obtain ⟨k1, k2, k3⟩ := key o l' hl
    have hw := wanted_rel (ts := ts) h1 (fun j want t v _ _ h3 => hA.tmps.2 t v h3)
    rw [k3, List.range'_succ]
    rcases ifb_ok h2 with ⟨rfl, h3⟩ | ⟨rfl, h3⟩
    · obtain ⟨v, dd, s', ψ, v', dd', w', p1, p2, p3, p4, h4⟩ := doOp_ok hI (b.at ts ds (.inRegion ops (i :: List.range' (i + 1) (ops.size - (i + 1))) :: k)) cs (hrd.isNone) (ev_rel hS hA.tmps) h3 hS
      obtain ⟨h5, h6⟩ := goPut_ok h4
      have hA' := (hA.mono p1.le).put (o := o.dst) (v := v) (v' := v') p2 (p3.append (hA.dfs.mono p1.le)) h6
      obtain ⟨a1, s1, χ, w2, ts2, ds2, e1, q1, q2, q3⟩ := hR _ _ _ _ _ _ _ h5 ψ w' b (putT ts o.dst v') (dd' ++ ds) (i + 1) k cs hb (hrd.mono p1.le) p1.rel hA' k2
      exact ⟨a1, s1, χ, w2, ts2, ds2, e1, p1.trans q1, q2, (mv_does k1 hw p4).trans q3⟩
    · obtain ⟨a', h4, hA'⟩ := put_rel h3 hA und_rel
      obtain ⟨a1, s1, χ, w2, ts2, ds2, e1, q1, q2, q3⟩ := hR _ _ _ _ _ _ _ h4 φ w b (putT ts o.dst undef) ds (i + 1) k cs hb hrd hS hA' k2
      refine ⟨a1, s1, χ, w2, ts2, ds2, e1, q1, q2, .head ?_ q3⟩
      have := mv_op_skip (P := P) (b := b) (ts := ts) (ds := ds) (k := k) (cs := cs) (w := w) (ops := ops) (i := i) (rest := List.range' (i + 1) (ops.size - (i + 1))) (by simp [k1, hw])
      simp only [k1, Option.bind_some] at this
      exact this
end
end Go.Proofs.YtihplijjkcdcjaaGreatDoor.Abs

/-
  Codes.
-/
namespace Go.Proofs.YtihplijjkcdcjaaGreatDoor.Abs
section
set_option linter.unusedVariables false
variable {P : Program} {φ : Phi} {w : World} {b : Fm} {ts : Array Value} {ds : List Deferred} {k : List Item} {cs : List Frame}

def DrawOk (P : Program) (ih : Rq → Rs Ans) : Prop :=
  ∀ fn rd ops n l a s r, plan P ops = some (n, l) → ih (.steps fn rd ops l s.next a ⟨s.heap, s.next + n⟩) = .ok r → ∀ (φ : Phi) (w : World) (b : Fm) (ts : Array Value) (ds : List Deferred) (id : Nat) (k : List Item) (cs : List Frame), b.fn = fn → RdRel φ rd b.rd → SRel φ s w → ARel φ a ts ds →
    ∃ a1 s1 ψ w' ts' ds', r = .at .normal a1 s1 ∧ Post φ s w ψ s1 w' ∧ ARel ψ a1 ts' ds' ∧ Steps P (lone (b.at ts ds (.code (.region id ops true) :: k)) cs w) (lone (b.at ts' ds' k) cs w')

theorem mv_range {f : Operand} {params : Array Tmp} {assign body : Code} {l : Nat} {mark : List Deferred} {w1 w2 w3 : World} {n : Next} {v : Value} {d : Deferred} (h1 : (Instr.enterLoop b.fn ts params assign body b.rd).run P w = .ok (l, mark) w1)
    (h2 : (resolve (tev ts) { callee := .value f, args := #[.const (.func (.yield l) #[] #[])], argTypes := #[] } 0).run P w1 = .ok d w1) (h3 : (invoke d.target d.args).run P w1 = .ok n w2) (h4 : Ran P .normal (b.at ts (mark ++ ds) (.inRangeFunc l :: k)) cs n w2 v w3) :
    Steps P (lone (b.at ts ds (.code (.rangeFunc f params assign body) :: k)) cs w) (lone (b.at ts (mark ++ ds) (.endRangeFunc l :: k)) cs w3) := by
  have hfin : ∀ v, (b.at ts (mark ++ ds) (.inRangeFunc l :: k)).finish v = b.at ts (mark ++ ds) (.endRangeFunc l :: k) := fun v => rfl
  have he := Fm.eval_at b ts (mark ++ ds) (.inRangeFunc l :: k)
  have hg : (stepG P true { frame := b.at ts ds (.code (.rangeFunc f params assign body) :: k), callers := cs, status := .running, dying := none } w).bare =
      (stepG.apply P true (b.at ts (mark ++ ds) (.inRangeFunc l :: k)) cs none (do let d ← resolve (tev ts) { callee := .value f, args := #[.const (.func (.yield l) #[] #[])], argTypes := #[] } 0; invoke d.target d.args) w1).bare := by
    rw [← he]
    simp only [Fm.at] at h1 ⊢
    simp [stepG, stepG.exec, h1]
  have hr : (do let d ← resolve (tev ts) { callee := .value f, args := #[.const (.func (.yield l) #[] #[])], argTypes := #[] } 0; invoke d.target d.args : Sem Next).run P w1 = .ok n w2 := by
    simp [h2, h3]
  rw [← hfin v]
  cases n with
  | value u =>
    obtain ⟨rfl, rfl⟩ : u = v ∧ w2 = w3 := h4
    exact .one (step_lone_go (by rw [hg]; simp [stepG.apply, hr]))
  | skip =>
    obtain ⟨rfl, rfl⟩ : undef = v ∧ w2 = w3 := h4
    exact .one (step_lone_go (by rw [hg]; simp [stepG.apply, hr]))
  | enter g args =>
    have h5 : Go.step P (lone (b.at ts ds (.code (.rangeFunc f params assign body) :: k)) cs w) = .next (lone (Frame.enter P g args .normal) (b.at ts (mark ++ ds) (.inRangeFunc l :: k) :: cs) w2) :=
      step_lone_go (by rw [hg]; simp [stepG.apply, hr, Fm.at])
    exact .head h5 h4
  | round l' g tmps as bd =>
    have h5 : Go.step P (lone (b.at ts ds (.code (.rangeFunc f params assign body) :: k)) cs w) = .next (lone (Frame.round l' g tmps as bd .normal) (b.at ts (mark ++ ds) (.inRangeFunc l :: k) :: cs) w2) :=
      step_lone_go (by rw [hg]; simp [stepG.apply, hr, Fm.at])
    exact .head h5 h4
  | _ => exact h4.elim
theorem mv_endRange {l : Nat} {jump : Option Code} {w1 : World} (h1 : (Instr.endLoop l).run P w = .ok jump w1) :
    Go.step P (lone (b.at ts ds (.endRangeFunc l :: k)) cs w) = .next (lone (b.at ts ds ((jump.map Item.code).toList ++ k)) cs w1) :=
  step_lone_go (by simp [stepG, stepG.exec, Fm.at, h1])

/-- a loop's object -/
theorem loopAt {st : St} (hS : SRel φ st w) {l : Nat} {L : Loc} {q : LoopState} {pend : Option Code} {fn : FuncId} {tt : Tr Value} {n : Nat} {ps : List Tmp} {as bd : Code} {d : Nat} (h : st.heap.get l = some (.loop q pend fn tt n ps as bd d)) (hL : φ l = some L) :
    ∃ tmps D, w.heap[L.blk]? = some (.loop ⟨q, pend, fn, tmps, ⟨ps⟩, as, bd, D⟩) ∧ TRel φ tt n tmps ∧ ∃ M : Loc, φ d = some M ∧ D = M.blk := by
  obtain ⟨o, h1, h2⟩ := hS.mem.objAt h hL
  cases h2 with
  | @loop _ _ D _ tmps _ _ _ ps' _ _ hd ht => exact ⟨tmps, D.blk, by simpa using h1, ht, D, hd, rfl⟩

theorem arr_pass {it : Item} {it' : Item} {e : XE} {ts' : Array Value} {ds' : List Deferred} {w w1 w' : World} {ts1 : Array Value} {ds1 : List Deferred} {k k1 : List Item} {cs : List Frame}
    (h1 : Steps P (lone (b.at ts ds (it :: k)) cs w) (lone (b.at ts1 ds1 (it' :: k1)) cs w1)) (h2 : ∀ id, exitTo id k1 = exitTo id k) (c : Code) (he : e = .jump c) (ha : Arr P b it' ts1 ds1 w1 e ts' ds' w' k1 cs) : Arr P b it ts ds w e ts' ds' w' k cs := by
  subst he
  obtain ⟨k0, h3, h4⟩ := ha
  exact ⟨k0, h1.trans h3, fun id hid => (h4 id hid).trans (h2 id)⟩
theorem arr_steps {it it' : Item} {e : XE} {ts' : Array Value} {ds' : List Deferred} {w w1 w' : World} {ts1 : Array Value} {ds1 : List Deferred} {k : List Item} {cs : List Frame}
    (h : Steps P (lone (b.at ts ds (it :: k)) cs w) (lone (b.at ts1 ds1 (it' :: k)) cs w1)) (ha : Arr P b it' ts1 ds1 w1 e ts' ds' w' k cs) : Arr P b it ts ds w e ts' ds' w' k cs := by
  cases e with
  | normal => exact h.trans ha
  | jump c =>
    obtain ⟨k0, h3, h4⟩ := ha
    exact ⟨k0, h.trans h3, h4⟩

theorem region_step {ih : Rq → Rs Ans} (hR : RunOk P ih) (hD : DrawOk P ih) {fn : FuncId} {rd : Option Nat} {id : Nat} {ops : Array Oper} {draw : Bool} {a : Ac} {s : St} {r : Ans} (h : onRegion P ih fn rd ops draw a s = .ok r)
    (hb : b.fn = fn) (hrd : RdRel φ rd b.rd) (hS : SRel φ s w) (hA : ARel φ a ts ds) : CodeAns P φ s w b (.code (.region id ops draw)) ts ds k cs r := by
  unfold onRegion at h
  rcases ifb_ok h with ⟨rfl, h1⟩ | ⟨rfl, h1⟩
  · split at h1 <;> first | (cases h1; done) | skip
    rename_i n l hp
    rw [natK_eq, natK_eq] at h1
    obtain ⟨a1, s1, ψ, w', ts', ds', e1, p1, p2, p3⟩ := hD _ _ _ _ _ _ _ _ hp h1 φ w b ts ds id k cs hb hrd hS hA
    exact ⟨_, a1, s1, ψ, w', ts', ds', e1, p1, p2, p3⟩
  · obtain ⟨a1, s1, ψ, w', ts', ds', e1, p1, p2, p3⟩ := hR _ _ _ _ _ _ _ h1 φ w b ts ds 0 k cs hb hrd hS hA rfl
    refine ⟨_, a1, s1, ψ, w', ts', ds', e1, p1, p2, .head mv_region ?_⟩
    have := p3
    rw [Nat.sub_zero, ← List.range_eq_range'] at this
    exact this

theorem seq_step {ih : Rq → Rs Ans} (hC : CodeOk P ih) {fn : FuncId} {rd : Option Nat} {x y : Code} {a : Ac} {s : St} {r : Ans} (h : onSeq ih fn rd y (ih (.code fn rd x a s)) = .ok r)
    (hb : b.fn = fn) (hrd : RdRel φ rd b.rd) (hS : SRel φ s w) (hA : ARel φ a ts ds) (it it1 : Item) (h1 : ItemOf y it1) (h2 : Steps P (lone (b.at ts ds (it :: k)) cs w) (lone (b.at ts ds (.code x :: it1 :: k)) cs w)) (h3 : ∀ id k, exitTo id (it1 :: k) = exitTo id k) :
    CodeAns P φ s w b it ts ds k cs r := by
  unfold onSeq at h
  split at h
  · rename_i a1 s1 h4
    obtain ⟨e, a2, s2, ψ, w', ts', ds', e1, p1, p2, p3⟩ := hC _ _ _ _ _ _ h4 φ w b ts ds hb hrd hS hA _ (.inl rfl) (it1 :: k) cs
    cases e1
    obtain ⟨e, a3, s3, χ, w2, ts2, ds2, e2, q1, q2, q3⟩ := hC _ _ _ _ _ _ h ψ w' b ts' ds' hb (hrd.mono p1.le) p1.rel p2 it1 h1 k cs
    exact ⟨e, a3, s3, χ, w2, ts2, ds2, e2, p1.trans q1, q2, arr_steps (h2.trans p3) q3⟩
  · rename_i hne
    obtain ⟨e, a2, s2, ψ, w', ts', ds', e1, p1, p2, p3⟩ := hC _ _ _ _ _ _ h φ w b ts ds hb hrd hS hA _ (.inl rfl) (it1 :: k) cs
    subst e1
    cases e with
    | normal => exact absurd h (hne _ _)
    | jump c => exact ⟨_, a2, s2, ψ, w', ts', ds', rfl, p1, p2, arr_pass (it' := .code x) h2 (fun id => h3 id k) c rfl p3⟩

/-- a loop over a function -/
theorem range_enter {Sm : Summ} {ih : Rq → Rs Ans} (hI : InvOk P Sm ih) {fn : FuncId} {params : Array Tmp} {assign body : Code} {a : Ac} {g : Fn} {first cap : Array Value} {mark mark' : List Deferred} {d : Nat} {D : Loc} {f : Operand} {s : St} {r : Ans} {w1 : World}
    (h : onRangeEnter ih fn params assign body a g first cap mark d s = .ok r) (hb : b.fn = fn) (hS : SRel φ s w1) (hA : ARel φ a ts ds) (hf : VRel φ (.func g first cap) (tev ts f)) (hd : φ d = some D) (hmk : DsRel φ mark mark')
    (hw : ∀ o : Obj, o = .loop ⟨.ready, none, b.fn, ts, params, assign, body, D.blk⟩ → (Instr.enterLoop b.fn ts params assign body b.rd).run P w = .ok (w1.heap.size, mark') { w1 with heap := w1.heap.push o }) :
    ∃ e a1 s1 ψ w' ts' ds', r = .at e a1 s1 ∧ Post φ s w1 ψ s1 w' ∧ ARel ψ a1 ts' ds' ∧ Arr P b (.code (.rangeFunc f params assign body)) ts ds w e ts' ds' w' k cs := by
  unfold onRangeEnter at h
  rw [St.new_eq] at h
  have hp := Post.new hS (.loop .ready none fn a.tmps a.n params.toList assign body d) (.loop ⟨.ready, none, b.fn, ts, params, assign, body, D.blk⟩) ⟨w1.heap.size, 0, 0, 0⟩ rfl
    (fun ψ hle => by rw [hb]; exact .loop .ready none fn params assign body (hle _ _ hd) (hA.tmps.mono hle))
  have hen := hw _ rfl
  generalize hz : tev ts f = z at hf
  cases hf with
  | @func _ g' _ ys _ us hf1 s1 s2 s3 s4 =>
    split at h <;> first | (cases h; done) | skip
    rename_i v s2' h1
    have hy : VRel (φ.add s.next ⟨w1.heap.size, 0, 0, 0⟩) (.func (.yield s.next) #[] #[]) (.func (.yield w1.heap.size) #[] #[]) := by
      have hk := Phi.add_same φ s.next ⟨w1.heap.size, 0, 0, 0⟩
      exact .func (.yield (L := ⟨w1.heap.size, 0, 0, 0⟩) hk) rfl rfl (fun i v v' h => by simp at h) (fun i v v' h => by simp at h)
    have ha : LRel (φ.add s.next ⟨w1.heap.size, 0, 0, 0⟩) (first.toList ++ [.func (.yield s.next) #[] #[]]) (ys ++ #[Value.func (.yield w1.heap.size) #[] #[]]).toList := by
      rw [Array.toList_append]
      exact ((LRel.of_arr s1 s3).mono hp.le).append (LRel.cons hy (.nil _))
    obtain ⟨v2, s2x, ψ, n, w2, v', w', e2, h7, h8, h9, h10⟩ := hI _ _ _ _ h1 .normal (b.at ts (mark' ++ ds) (.inRangeFunc w1.heap.size :: k)) cs (.inl rfl) (.inl rfl) _ _ (.fn g' us) (ys ++ #[Value.func (.yield w1.heap.size) #[] #[]]) hp.rel (.fn (hf1.mono hp.le) ((LRel.of_arr s2 s4).mono hp.le)) ha
    cases e2
    have hres : (resolve (tev ts) { callee := .value f, args := #[.const (.func (.yield w1.heap.size) #[] #[])], argTypes := #[] } 0).run P { w1 with heap := w1.heap.push (.loop ⟨.ready, none, b.fn, ts, params, assign, body, D.blk⟩) } =
        .ok ⟨.fn g' us, ys ++ #[.func (.yield w1.heap.size) #[] #[]]⟩ { w1 with heap := w1.heap.push (.loop ⟨.ready, none, b.fn, ts, params, assign, body, D.blk⟩) } := by
      simp only [resolve, hz, Deferred.ofValue]
      simp [tev]
    have mv := mv_range (P := P) (ds := ds) (k := k) (cs := cs) hen hres h7 h8
    unfold onRangeEnd at h
    split at h <;> first | (cases h; done) | skip
    rename_i st pend fn' tt nn ps as bd d' hl
    obtain ⟨tmps, DD, hL1, hL2, M, hM, rfl⟩ := loopAt h9.rel hl (h9.le _ _ (Phi.add_same φ s.next ⟨w1.heap.size, 0, 0, 0⟩))
    have hg := run_getObj (P := P) hL1 (fun _ _ _ e => by cases e)
    have hs := fun q => run_setObj (P := P) (q := q) hL1 (fun _ _ _ e => by cases e)
    have fin : st ≠ .busy → s2'.put s.next (.loop .exhausted pend fn' tt nn ps as bd d') (fun s => (match pend with
        | none => Rs.ok (Ans.at .normal ⟨a.tmps, a.n, mark ++ a.dfs⟩ s)
        | some c => Rs.ok (Ans.at (.jump c) ⟨a.tmps, a.n, mark ++ a.dfs⟩ s))) = .ok r → ∃ e a1 s1 ψ w' ts' ds', r = .at e a1 s1 ∧ Post φ s w1 ψ s1 w' ∧ ARel ψ a1 ts' ds' ∧ Arr P b (.code (.rangeFunc f params assign body)) ts ds w e ts' ds' w' k cs := by
      intro hst hput
      rw [St.put_eq] at hput
      have hput2 := Post.put (y := .loop .exhausted pend fn' tt nn ps as bd d') (q := .loop ⟨.exhausted, pend, fn', tmps, ⟨ps⟩, as, bd, M.blk⟩) h9.rel hl rfl (h9.le _ _ (Phi.add_same φ s.next ⟨w1.heap.size, 0, 0, 0⟩)) hL1
        (.loop (ps := ⟨ps⟩) .exhausted pend fn' as bd hM hL2)
      have hpost := (hp.trans h9).trans hput2
      have hend : (Instr.endLoop w1.heap.size).run P w' = .ok pend { w' with heap := w'.heap.setIfInBounds w1.heap.size (.loop ⟨.exhausted, pend, fn', tmps, ⟨ps⟩, as, bd, M.blk⟩) } := by
        unfold Instr.endLoop Instr.getLoop
        simp [hg, hs]
        exact fun e => absurd e hst
      have hA2 : ARel ψ ⟨a.tmps, a.n, mark ++ a.dfs⟩ ts (mark' ++ ds) := ⟨(hA.mono hpost.le).tmps, (hmk.append hA.dfs).mono hpost.le⟩
      cases pend with
      | none =>
        cases hput
        refine ⟨.normal, _, _, ψ, _, ts, _, rfl, hpost, hA2, mv.trans (.one (mv_endRange hend))⟩
      | some c =>
        cases hput
        refine ⟨.jump c, _, _, ψ, _, ts, _, rfl, hpost, hA2, ⟨k, mv.trans (.one (mv_endRange hend)), fun _ _ => rfl⟩⟩
    split at h
    · cases h
    · rename_i hst
      exact fin (fun e => hst e) h

theorem range_step {Sm : Summ} {ih : Rq → Rs Ans} (hI : InvOk P Sm ih) {fn : FuncId} {rd : Option Nat} {f : Operand} {params : Array Tmp} {assign body : Code} {a : Ac} {s : St} {r : Ans} (h : (a.ev f).bind (onRange ih fn rd params assign body a s) = .ok r)
    (hb : b.fn = fn) (hrd : RdRel φ rd b.rd) (hS : SRel φ s w) (hA : ARel φ a ts ds) : CodeAns P φ s w b (.code (.rangeFunc f params assign body)) ts ds k cs r := by
  obtain ⟨fv, h1, h2⟩ := Rs.bind_ok h
  have hf := ev_rel hS hA.tmps _ _ h1
  unfold onRange at h2
  split at h2 <;> first | (cases h2; done) | skip
  rename_i g first cap
  split at h2
  · -- no round
    have hr : b.rd = none := hrd.isNone rfl
    rw [St.new_eq] at h2
    have hp := Post.new hS (.dfs true) (.deferred (some [])) ⟨w.heap.size, 0, 0, 0⟩ rfl (fun ψ hle => .dfsOpen)
    have hk := Phi.add_same φ s.next ⟨w.heap.size, 0, 0, 0⟩
    obtain ⟨e, a1, s1, ψ, w', ts', ds', e1, p1, p2, p3⟩ := range_enter (mark' := [⟨.collected w.heap.size, #[]⟩]) (w := w) hI h2 hb hp.rel (hA.mono hp.le) (hf.mono hp.le) hk (.cons (.mark (L := ⟨w.heap.size, 0, 0, 0⟩) hk) .nil) (by
      intro o ho
      subst ho
      rw [hr]
      simp [Instr.enterLoop]
      rfl)
    exact ⟨e, a1, s1, ψ, w', ts', ds', e1, hp.trans p1, p2, p3⟩
  · rename_i l
    split at h2 <;> first | (cases h2; done) | skip
    rename_i st0 pend0 fn0 tt0 n0 ps0 as0 bd0 d hl
    generalize hr : b.rd = rr at hrd
    cases hrd with
    | @of _ L hL =>
      obtain ⟨tmps, DD, hL1, hL2, M, hM, rfl⟩ := loopAt hS hl hL
      have hg := run_getObj (P := P) hL1 (fun _ _ _ e => by cases e)
      obtain ⟨e, a1, s1, ψ, w', ts', ds', e1, p1, p2, p3⟩ := range_enter (mark' := []) (w := w) hI h2 hb hS hA hf hM .nil (by
        intro o ho
        subst ho
        rw [hr]
        simp [Instr.enterLoop, Instr.getLoop, hg])
      exact ⟨e, a1, s1, ψ, w', ts', ds', e1, p1, p2, p3⟩

/-- CODES. -/
theorem code_step {Sm : Summ} {ih : Rq → Rs Ans} (hI : InvOk P Sm ih) (hC : CodeOk P ih) (hR : RunOk P ih) (hD : DrawOk P ih) {fn : FuncId} {rd : Option Nat} {c : Code} {a : Ac} {s : St} {r : Ans} (h : onCode P ih fn rd c a s = .ok r)
    (hb : b.fn = fn) (hrd : RdRel φ rd b.rd) (hS : SRel φ s w) (hA : ARel φ a ts ds) (it : Item) (hit : ItemOf c it) : CodeAns P φ s w b it ts ds k cs r := by
  have plain : (∀ x, c ≠ .loop x) → it = .code c := fun hn => hit.resolve_right fun ⟨x, e, _⟩ => hn x e
  unfold onCode at h
  split at h <;> first | (cases h; done) | skip
  · obtain rfl := plain (fun x e => by cases e)
    cases h
    exact ⟨.normal, _, _, φ, w, ts, ds, rfl, .refl hS, hA, .one mv_skip⟩
  · obtain rfl := plain (fun x e => by cases e)
    cases h
    exact ⟨.normal, _, _, φ, w, ts, ds, rfl, .refl hS, hA, .one mv_label⟩
  · rename_i x y
    obtain rfl := plain (fun x e => by cases e)
    exact seq_step hC h hb hrd hS hA _ (.code y) (.inl rfl) (.one mv_seq) (fun id k => by simp [exitTo])
  · rename_i c x y
    obtain rfl := plain (fun x e => by cases e)
    obtain ⟨v, h1, h2⟩ := Rs.bind_ok h
    have hv := ev_rel hS hA.tmps _ _ h1
    unfold onCond at h2
    split at h2 <;> first | (cases h2; done) | skip
    · have hz : tev ts c = .bool true := by generalize tev ts c = z at hv; cases hv; rfl
      obtain ⟨e, a1, s1, ψ, w', ts', ds', e1, p1, p2, p3⟩ := hC _ _ _ _ _ _ h2 φ w b ts ds hb hrd hS hA _ (.inl rfl) k cs
      exact ⟨e, a1, s1, ψ, w', ts', ds', e1, p1, p2, arr_steps (.one (mv_cond hz)) p3⟩
    · have hz : tev ts c = .bool false := by generalize tev ts c = z at hv; cases hv; rfl
      obtain ⟨e, a1, s1, ψ, w', ts', ds', e1, p1, p2, p3⟩ := hC _ _ _ _ _ _ h2 φ w b ts ds hb hrd hS hA _ (.inl rfl) k cs
      exact ⟨e, a1, s1, ψ, w', ts', ds', e1, p1, p2, arr_steps (.one (mv_cond hz)) p3⟩
  · rename_i id x
    obtain rfl := plain (fun x e => by cases e)
    have fin : ∀ {q : Ans}, ih (.code fn rd x a s) = .ok q → ∃ e a1 s1 ψ w' ts' ds', q = .at e a1 s1 ∧ Post φ s w ψ s1 w' ∧ ARel ψ a1 ts' ds' ∧ Arr P b (.code x) ts ds w e ts' ds' w' (.inBlock id :: k) cs :=
      fun hq => hC _ _ _ _ _ _ hq φ w b ts ds hb hrd hS hA _ (.inl rfl) (.inBlock id :: k) cs
    unfold onBlock at h
    split at h
    · rename_i j a1 s1 h1
      obtain ⟨e, a2, s2, ψ, w', ts', ds', e1, p1, p2, p3⟩ := fin h1
      cases e1
      rcases ifb_ok h with ⟨hj, h2⟩ | ⟨hj, h2⟩
      · cases h2
        have hj := Nat.eq_of_beq_eq_true hj
        subst hj
        refine ⟨.normal, _, _, ψ, w', ts', ds', rfl, p1, p2, ?_⟩
        obtain ⟨k0, h3, h4⟩ := p3
        exact .head mv_block (h3.trans (.one (mv_exit (by rw [h4 j rfl]; simp [exitTo]))))
      · cases h2
        refine ⟨.jump (.exit j), _, _, ψ, w', ts', ds', rfl, p1, p2, ?_⟩
        obtain ⟨k0, h3, h4⟩ := p3
        refine ⟨k0, .head mv_block h3, fun i hi => ?_⟩
        cases hi
        rw [h4 j rfl]
        have hne : (id == j) = false := by
          rw [beq_eq_false_iff_ne]
          intro e
          subst e
          simp at hj
        simp [exitTo, hne]
    · rename_i hne
      obtain ⟨e, a2, s2, ψ, w', ts', ds', e1, p1, p2, p3⟩ := fin h
      subst e1
      cases e with
      | normal => exact ⟨_, _, _, ψ, w', ts', ds', rfl, p1, p2, .head mv_block (Steps.trans p3 (.one mv_inBlock))⟩
      | jump c =>
        refine ⟨_, _, _, ψ, w', ts', ds', rfl, p1, p2, ?_⟩
        obtain ⟨k0, h3, h4⟩ := p3
        refine ⟨k0, .head mv_block h3, fun i hi => ?_⟩
        subst hi
        exact absurd h (hne _ _ _)
  · rename_i x
    refine seq_step hC h hb hrd hS hA _ (.inLoop x) (.inr ⟨x, rfl, rfl⟩) ?_ (fun id k => by simp [exitTo])
    rcases hit with rfl | ⟨y, e, rfl⟩
    · exact .one mv_loop
    · cases e
      exact .one mv_inLoop
  · rename_i x
    obtain rfl := plain (fun x e => by cases e)
    have fin : ∀ {q : Ans}, ih (.code fn rd x a s) = .ok q → CodeAns P φ s w b (.code (.scope x)) ts ds k cs q := by
      intro q hq
      obtain ⟨e, a2, s2, ψ, w', ts', ds', e1, p1, p2, p3⟩ := hC _ _ _ _ _ _ hq φ w b ts ds hb hrd hS hA _ (.inl rfl) (.inScope x :: k) cs
      subst e1
      cases e with
      | normal => exact ⟨_, _, _, ψ, w', ts', ds', rfl, p1, p2, .head mv_scope (Steps.trans p3 (.one mv_inScope))⟩
      | jump c => exact ⟨_, _, _, ψ, w', ts', ds', rfl, p1, p2, arr_pass (it' := .code x) (.one mv_scope) (fun id => by simp [exitTo]) c rfl p3⟩
    unfold onScope at h
    split at h
    · cases h
    · exact fin h
  · obtain rfl := plain (fun x e => by cases e)
    cases h
    exact ⟨_, _, _, φ, w, ts, ds, rfl, .refl hS, hA, ⟨k, .refl _ _, fun _ _ => rfl⟩⟩
  · obtain rfl := plain (fun x e => by cases e)
    cases h
    exact ⟨_, _, _, φ, w, ts, ds, rfl, .refl hS, hA, ⟨k, .refl _ _, fun _ _ => rfl⟩⟩
  · obtain rfl := plain (fun x e => by cases e)
    exact region_step hR hD h hb hrd hS hA
  · obtain rfl := plain (fun x e => by cases e)
    exact range_step hI h hb hrd hS hA
end
end Go.Proofs.YtihplijjkcdcjaaGreatDoor.Abs

/-
  Calls, rounds of loops over functions, calls put off.
-/
namespace Go.Proofs.YtihplijjkcdcjaaGreatDoor.Abs
section
set_option linter.unusedVariables false
variable {P : Program} {φ : Phi} {w : World}

/-- what a program's summaries promise -/
def SmOk (P : Program) (Sm : Summ) : Prop :=
  ∀ f g, Sm f = some g → ∀ args s v s1, g args s = .ok (v, s1) → ∀ (fr : Frame) (cs : List Frame) (φ : Phi) (w : World) (args' : Array Value), SRel φ s w → LRel φ args args'.toList →
    ∃ ψ n w1 v' w', (callFunc f args').run P w = .ok n w1 ∧ Ran P .normal fr cs n w1 v' w' ∧ Post φ s w ψ s1 w' ∧ VRel ψ v v'
def NumOk (P : Program) : Prop := ∀ (f : FuncId) (fn : Func), P.funcs[f]? = some fn → fn.body.isSome = true → fn.name ≠ "runtime.NumGoroutine"

/-- results -/
theorem mapM_results {a : Ac} {st : St} {ts : Array Value} (hS : SRel φ st w) (hT : TRel φ a.tmps a.n ts) {g : ResultVar → Rs Value} {g' : ResultVar → Sem Value} (g1 : ∀ t, g (.tmp t) = Rs.of 100 (a.tmps.get t)) (g2 : ∀ x t, g (.cell x t) = (Rs.of 100 (a.tmps.get x)).bind fun p => pLoad P st.heap t p)
    (g1' : ∀ t, g' (.tmp t) = pure (ts.getD t undef)) (g2' : ∀ x t, g' (.cell x t) = (do loadVar t (← asAddr (ts.getD x undef)))) : ∀ {l : List ResultVar} {vs : List Value}, mapR g l = .ok vs → ∃ us, (l.mapM g').run P w = .ok us w ∧ LRel φ vs us
  | [], vs, h => by
    cases h
    exact ⟨[], by simp, .nil φ⟩
  | r :: l, vs, h => by
    have h' : ((g r).bind fun v => (mapR g l).bind fun vs => .ok (v :: vs)) = Rs.ok vs := h
    obtain ⟨v, h1, h2⟩ := Rs.bind_ok h'
    obtain ⟨vs', h3, h4⟩ := Rs.bind_ok h2
    cases h4
    obtain ⟨us, h5, h6⟩ := mapM_results hS hT g1 g2 g1' g2' h3
    rw [List.mapM_cons]
    cases r with
    | tmp t =>
      rw [g1] at h1
      obtain ⟨v', h7, h8⟩ := hT.2 t v (Rs.of_ok h1)
      refine ⟨v' :: us, ?_, LRel.cons h8 h6⟩
      simp [g1', h7, h5]
    | cell x t =>
      rw [g2] at h1
      obtain ⟨p, h7, h8⟩ := Rs.bind_ok h1
      obtain ⟨p', h9, h10⟩ := hT.2 x p (Rs.of_ok h7)
      obtain ⟨v', h11, h12⟩ := pLoad_ok (P := P) hS.mem h8 h10
      refine ⟨v' :: us, ?_, LRel.cons h12 h6⟩
      have hp : ∃ ad, p' = .pointer (some ad) := by
        unfold pLoad at h8
        split at h8 <;> first | (cases h8; done) | skip
        cases h10
        exact ⟨_, rfl⟩
      obtain ⟨ad, rfl⟩ := hp
      have h13 : (loadVar t ad).run P w = .ok v' w := by
        simpa [Instr.loadAt, Instr.sureAddr] using h11
      simp [g2', h9, asAddr, h13, h5]
theorem results_ok {fn : Func} {a : Ac} {st : St} {ts : Array Value} {v : Value} (hS : SRel φ st w) (hT : TRel φ a.tmps a.n ts) (h : aResults P fn a st = .ok v) : ∃ v', (results fn ts).run P w = .ok v' w ∧ VRel φ v v' := by
  unfold aResults at h
  obtain ⟨vs, h1, h2⟩ := Rs.bind_ok h
  unfold results
  obtain ⟨us, h3, h4⟩ := mapM_results (P := P) (g' := fun | .tmp t => pure (ts.getD t undef) | .cell a t => do loadVar t (← asAddr (ts.getD a undef))) hS hT (fun _ => rfl) (fun _ _ => rfl) (fun _ => rfl) (fun _ _ => rfl) h1
  rw [Sem.run_bind, Array.mapM_eq_mapM_toList, Sem.run_map]
  erw [h3]
  simp only [Result.andThen_ok, Sem.run_pure]
  split at h2
  · rename_i v0
    cases h2
    match us, h4 with
    | [u], h4 => exact ⟨u, by simp, h4.2 0 _ _ rfl rfl⟩
    | [], h4 => exact absurd h4.1 (by simp)
    | _ :: _ :: _, h4 => exact absurd h4.1 (by simp)
  · rename_i hne
    cases h2
    have hn : us.length ≠ 1 := by
      intro e
      match vs, h4.1.trans e, hne with
      | [v0], _, hne => exact hne v0 rfl
    refine ⟨.tuple ⟨us⟩, by simp [hn], .tuple (by simpa using h4.1) fun i v v' a b => h4.2 i v v' (by simpa using a) (by simpa using b)⟩

section moves
variable {b : Fm} {ts : Array Value} {ds : List Deferred} {k : List Item} {cs : List Frame}
theorem mv_end (h : b.rd = none) : Go.step P (lone (b.at ts ds []) cs w) = .next (lone { b.at ts ds [] with mode := .returning } cs w) := step_lone_go (by simp [stepG, stepG.exec, Fm.at, h])
theorem mv_ret (h : b.rd = none) : Go.step P (lone (b.at ts ds (.code .ret :: k)) cs w) = .next (lone { b.at ts ds (.code .ret :: k) with mode := .returning } cs w) := step_lone_go (by simp [stepG, stepG.exec, Fm.at, h])
/-- a call comes back -/
theorem mv_back {fr c : Frame} {v : Value} {fn : Func} {kd : CallKind} (hk : fr.kind = kd) (hm : fr.mode = .returning) (hd : fr.defers = []) (hf : P.funcs[fr.fn]? = some fn) (hr : (results fn fr.tmps).run P w = .ok v w) (hb : BackOk kd c) :
    Go.step P (lone fr (c :: cs) w) = .next (lone (back kd c v) cs w) := by
  rcases hb with rfl | ⟨rfl, hc⟩
  · exact step_lone_go (by simp [stepG, unwind, doReturn, hm, hd, hk, hf, hr, back])
  · exact step_lone_go (by simp [stepG, unwind, doReturn, hm, hd, hk, hf, hr, back, hc])
end moves

/-- A FUNCTION WITH A BODY, up to where it leaves. -/
theorem body_leave {ih : Rq → Rs Ans} (hC : CodeOk P ih) (hF : DfrOk P ih) {f : FuncId} {fn : Func} {c : Code} {args : List Value} {as : Array Value} {s : St} {r : Ans} (hf : P.funcs[f]? = some fn) (hb : fn.body = some c)
    (h : onBody P ih fn (ih (.code f none c ⟨Tr.ofList args 0 .nil, max fn.ntmps (lenN args), []⟩ s)) = .ok r) (hS : SRel φ s w) (hl : LRel φ args as.toList) (kd : CallKind) (cs : List Frame) :
    ∃ v s' ψ v' w', r = .val v s' ∧ Post φ s w ψ s' w' ∧ VRel ψ v v' ∧ ∃ fr, Steps P (lone (Frame.enter P f as kd) cs w) (lone fr cs w') ∧ fr.fn = f ∧ fr.kind = kd ∧ fr.mode = .returning ∧ fr.defers = [] ∧ (results fn fr.tmps).run P w' = .ok v' w' := by
  have hn : as.size = args.length := by have := hl.1; simp at this; omega
  have hT : TRel φ (Tr.ofList args 0 .nil) (max fn.ntmps (lenN args)) (as ++ Array.replicate (fn.ntmps - as.size) undef) := by
    refine ⟨by simp [lenN_eq, hn]; omega, fun t v e => ?_⟩
    rcases Tr.get_ofList e with ⟨k, rfl, h2⟩ | h2
    · obtain ⟨v', h3, h4⟩ := hl.get h2
      have h3' : as[k]? = some v' := by simpa using h3
      have := (Array.getElem?_eq_some_iff.1 h3').1
      exact ⟨v', by rw [Nat.zero_add, Array.getElem?_append_left this]; exact h3', h4⟩
    · exact Tr.get_nil_no h2
  have enter : Frame.enter P f as kd = (Fm.mk f kd none).at (as ++ Array.replicate (fn.ntmps - as.size) undef) [] [.code c] := by
    simp [Frame.enter, Fm.at, hf, hb]
  unfold onBody at h
  split at h <;> first | (cases h; done) | skip
  rename_i e a1 s1 h1
  obtain ⟨e', a2, s2, ψ, w', ts', ds', e1, p1, p2, p3⟩ := hC _ _ _ _ _ _ h1 φ w (Fm.mk f kd none) _ [] rfl .no hS ⟨hT, .nil⟩ (.code c) (.inl rfl) [] cs
  cases e1
  -- the frame that leaves
  have leave : ∀ (h2 : onLeave P ih fn a1 s1 = .ok r), (∃ todo, Steps P (lone (Frame.enter P f as kd) cs w) (lone { (Fm.mk f kd none).at ts' ds' todo with mode := .returning } cs w')) →
      ∃ v s' ψ v' w', r = .val v s' ∧ Post φ s w ψ s' w' ∧ VRel ψ v v' ∧ ∃ fr, Steps P (lone (Frame.enter P f as kd) cs w) (lone fr cs w') ∧ fr.fn = f ∧ fr.kind = kd ∧ fr.mode = .returning ∧ fr.defers = [] ∧ (results fn fr.tmps).run P w' = .ok v' w' := by
    intro h2 h3
    obtain ⟨todo, h9⟩ := h3
    have fin : ∀ {s3 : St} {χ : Phi} {w3 : World}, onEnd P fn a1 s3 = .ok r → Post ψ s1 w' χ s3 w3 → Steps P (lone { (Fm.mk f kd none).at ts' ds' todo with mode := .returning } cs w') (lone { (Fm.mk f kd none).at ts' ds' todo with mode := .returning, defers := [] } cs w3) →
        ∃ v s' ψ v' w', r = .val v s' ∧ Post φ s w ψ s' w' ∧ VRel ψ v v' ∧ ∃ fr, Steps P (lone (Frame.enter P f as kd) cs w) (lone fr cs w') ∧ fr.fn = f ∧ fr.kind = kd ∧ fr.mode = .returning ∧ fr.defers = [] ∧ (results fn fr.tmps).run P w' = .ok v' w' := by
      intro s3 χ w3 h4 q1 q2
      unfold onEnd at h4
      obtain ⟨v, h5, h6⟩ := Rs.bind_ok h4
      rw [forceV_eq] at h6
      cases h6
      obtain ⟨v', h7, h8⟩ := results_ok (P := P) q1.rel (p2.mono q1.le).tmps h5
      exact ⟨v, s3, χ, v', w3, rfl, p1.trans q1, h8, { (Fm.mk f kd none).at ts' ds' todo with mode := .returning, defers := [] }, h9.trans q2, rfl, rfl, rfl, rfl, h7⟩
    unfold onLeave at h2
    split at h2
    · rename_i hd
      have hds : ds' = [] := by
        have := p2.dfs
        rw [hd] at this
        cases this
        rfl
      subst hds
      exact fin h2 (.refl p1.rel) (.refl _ _)
    · rename_i d dd hd
      unfold onDfr at h2
      split at h2 <;> first | (cases h2; done) | skip
      rename_i s3 h4
      obtain ⟨s4, χ, w3, e2, q1, q2⟩ := hF _ _ _ h4 ψ w' ds' { (Fm.mk f kd none).at ts' ds' todo with mode := .returning } cs p1.rel (by rw [← hd]; exact p2.dfs) rfl rfl
      cases e2
      exact fin h2 q1 q2
  rw [enter] at leave ⊢
  split at h
  · exact leave h ⟨[], Steps.trans p3 (.one (mv_end rfl))⟩
  · split at h <;> first | (cases h; done) | skip
    obtain ⟨k0, h5, _⟩ := p3
    exact leave h ⟨_, h5.trans (.one (mv_ret rfl))⟩

/-- A FUNCTION WITH A BODY. -/
theorem body_step {ih : Rq → Rs Ans} (hC : CodeOk P ih) (hF : DfrOk P ih) {f : FuncId} {fn : Func} {c : Code} {args : List Value} {as : Array Value} {s : St} {r : Ans} (hf : P.funcs[f]? = some fn) (hb : fn.body = some c)
    (h : onBody P ih fn (ih (.code f none c ⟨Tr.ofList args 0 .nil, max fn.ntmps (lenN args), []⟩ s)) = .ok r) (hS : SRel φ s w) (hl : LRel φ args as.toList) (kd : CallKind) (fr : Frame) (cs : List Frame) (hbk : BackOk kd fr) :
    ∃ v s' ψ v' w', r = .val v s' ∧ Ran P kd fr cs (.enter f as) w v' w' ∧ Post φ s w ψ s' w' ∧ VRel ψ v v' := by
  obtain ⟨v, s', ψ, v', w', h1, h2, h3, h4⟩ := body_leave hC hF hf hb h hS hl kd (fr :: cs)
  refine ⟨v, s', ψ, v', w', h1, ?_, h2, h3⟩
  obtain ⟨fr', h5, h6, h7, h8, h9, h10⟩ := h4
  exact h5.trans (.one (mv_back h7 h8 h9 (by rw [h6]; exact hf) h10 hbk))

theorem mv_unwind {fr : Frame} {cs : List Frame} {d : Deferred} {ds : List Deferred} {n : Next} {w1 w2 : World} {v : Value} (hm : fr.mode = .returning) (hd : fr.defers = d :: ds) (hc : ∃ f c, d.target = .fn f c) (h : (invoke d.target d.args).run P w = .ok n w1) (hr : Ran P .deferred { fr with defers := ds } cs n w1 v w2) :
    Steps P (lone fr cs w) (lone { fr with defers := ds } cs w2) := by
  obtain ⟨t, as⟩ := d
  obtain ⟨f, c, hc⟩ := hc
  obtain rfl : t = .fn f c := hc
  simp only at h
  have hbk : BackOk .deferred ({ fr with defers := ds } : Frame) := .inr ⟨rfl, hm⟩
  have hg : (stepG P true { frame := fr, callers := cs, status := .running, dying := none } w).bare = (callDeferred P { fr with defers := ds } cs none ⟨.fn f c, as⟩ w).bare := by
    simp [stepG, hm, unwind, hd]
  cases n with
  | value u =>
    obtain ⟨rfl, rfl⟩ : u = v ∧ w1 = w2 := hr
    refine .one (step_lone_go ?_)
    rw [hg]
    simp [callDeferred, h]
  | skip =>
    obtain ⟨rfl, rfl⟩ : undef = v ∧ w1 = w2 := hr
    refine .one (step_lone_go ?_)
    rw [hg]
    simp [callDeferred, h]
  | enter g args =>
    have h5 : Go.step P (lone fr cs w) = .next (lone (Frame.enter P g args .deferred) ({ fr with defers := ds } :: cs) w1) := by
      refine step_lone_go ?_
      rw [hg]
      simp [callDeferred, h]
    exact .head h5 hr
  | round l g tmps as bd =>
    have h5 : Go.step P (lone fr cs w) = .next (lone (Frame.round l g tmps as bd .deferred) ({ fr with defers := ds } :: cs) w1) := by
      refine step_lone_go ?_
      rw [hg]
      simp [callDeferred, h]
    exact .head h5 hr
  | _ => exact hr.elim

/-- CALLS PUT OFF. -/
theorem dfr_step {Sm : Summ} {ih : Rq → Rs Ans} (hI : InvOk P Sm ih) (hF : DfrOk P ih) {l : List Deferred} {s : St} {r : Ans} {ds : List Deferred} {fr : Frame} {cs : List Frame} (h : onDfrs Sm ih l s = .ok r) (hS : SRel φ s w) (hl : DsRel φ l ds) (hm : fr.mode = .returning) (hfr : fr.defers = ds) :
    ∃ s1 ψ w', r = .st s1 ∧ Post φ s w ψ s1 w' ∧ Steps P (lone fr cs w) (lone { fr with defers := [] } cs w') := by
  unfold onDfrs at h
  cases hl with
  | nil =>
    cases h
    refine ⟨s, φ, w, rfl, .refl hS, ?_⟩
    obtain ⟨f1, f2, f3, f4, f5, f6, f7⟩ := fr
    cases hfr
    exact .refl _ _
  | @cons d d' l l' hd hl =>
    simp only at h
    cases hd with
    | @fn f f' c c' a a' hf hc ha =>
      simp only at h
      obtain ⟨hno, h⟩ := ifb_no h
      unfold onDeferred at h
      split at h <;> first | (cases h; done) | skip
      rename_i v s1 h1
      obtain ⟨v2, s2, ψ, n, w1, v', w', e1, h2, h3, h4, h5⟩ := hI _ _ _ _ h1 .deferred { fr with defers := l' } cs (.inr ⟨rfl, hm⟩) (.inr fun g e he => by cases he; exact hno) φ w (.fn f' c') a' hS (.fn hf hc) ha
      cases e1
      obtain ⟨s3, χ, w3, e2, q1, q2⟩ := hF _ _ _ h ψ w' l' { fr with defers := l' } cs h4.rel (hl.mono h4.le) hm rfl
      exact ⟨s3, χ, w3, e2, h4.trans q1, (mv_unwind (d := ⟨.fn f' c', a'⟩) hm hfr ⟨_, _, rfl⟩ h2 h3).trans q2⟩
    | @mark q L hL =>
      simp only at h
      split at h <;> first | (cases h; done) | skip
      rename_i hq
      rw [St.put_eq] at h
      obtain ⟨o, h1, h2⟩ := hS.mem.objAt hq hL
      cases h2
      have hp := Post.put (y := .dfs false) (q := .deferred none) hS hq rfl hL h1 .dfsDone
      obtain ⟨s3, χ, w3, e2, q1, q2⟩ := hF _ _ _ h φ _ l' { fr with defers := l' } cs hp.rel hl hm rfl
      refine ⟨s3, χ, w3, e2, hp.trans q1, .head (step_lone_go ?_) q2⟩
      have hg := run_getObj (P := P) h1 (fun _ _ _ e => by cases e)
      have hs := fun q => run_setObj (P := P) (q := q) h1 (fun _ _ _ e => by cases e)
      have ht : (Instr.takeDeferred L.blk).run P w = .ok [] { w with heap := w.heap.setIfInBounds L.blk (.deferred none) } := by
        simp [Instr.takeDeferred, hg, hs]
      simp [stepG, hm, unwind, hfr, ht]
end
end Go.Proofs.YtihplijjkcdcjaaGreatDoor.Abs

/-
  Rounds of loops over functions; all calls.
-/
namespace Go.Proofs.YtihplijjkcdcjaaGreatDoor.Abs
section
set_option linter.unusedVariables false
variable {P : Program} {φ : Phi} {w : World}

/-- a round's arguments go to their places -/
theorem putAll_ok {ds : List Deferred} : ∀ {l : List (Tmp × Value)} {l' : List (Tmp × Value)} {a : Ac} {ts : Array Value} {k : Ac → Rs Ans} {r : Ans}, putAll k l a = .ok r → ARel φ a ts ds → l.length = l'.length →
    (∀ (i : Nat) (t : Tmp) (v : Value) (t' : Tmp) (v' : Value), l[i]? = some (t, v) → l'[i]? = some (t', v') → t = t' ∧ VRel φ v v') → ∃ a', k a' = .ok r ∧ ARel φ a' (l'.foldl (fun ts p => ts.setIfInBounds p.1 p.2) ts) ds
  | [], [], a, ts, k, r, h, hA, _, _ => ⟨a, h, hA⟩
  | [], _ :: _, _, _, _, _, _, _, hn, _ => by simp at hn
  | _ :: _, [], _, _, _, _, _, _, hn, _ => by simp at hn
  | (t, v) :: l, (t', v') :: l', a, ts, k, r, h, hA, hn, hr => by
    have h' : a.put (some t) v (putAll k l) = .ok r := h
    obtain ⟨rfl, hv⟩ := hr 0 t v t' v' rfl rfl
    obtain ⟨a', h1, hA'⟩ := put_rel h' hA hv
    exact putAll_ok (l := l) (l' := l') (ts := ts.setIfInBounds t v') h1 hA' (by simpa using hn) (fun i t v t' v' e e' => hr (i + 1) t v t' v' (by simpa using e) (by simpa using e'))

section moves
variable {b : Fm} {ts : Array Value} {ds : List Deferred} {k : List Item} {cs : List Frame}
theorem mv_begin {l : Nat} {w1 : World} (hb : b.rd = some l) (h : (Instr.beginRound l).run P w = .ok () w1) : Go.step P (lone (b.at ts ds (.beginRound :: k)) cs w) = .next (lone (b.at ts ds k) cs w1) := by
  refine step_lone_go ?_
  simp [stepG, stepG.exec, Fm.at, hb, stepG.apply, h, Frame.finish]
/-- a round ends -/
theorem mv_round {fr c : Frame} {l : Nat} {kd : CallKind} {w1 : World} {v : Value} {jump : Option Code} (hk : fr.kind = kd) (hm : fr.mode = .run) (hr : fr.roundOf = some l) (hj : (jump = none ∧ fr.todo = []) ∨ (jump = some .ret ∧ ∃ k, fr.todo = .code .ret :: k) ∨ (∃ id, jump = some (.exit id) ∧ ∃ k, fr.todo = .code (.exit id) :: k ∧ exitTo id k = none))
    (h : (Instr.endRound l jump).run P w = .ok v w1) (hb : BackOk kd c) : Go.step P (lone fr (c :: cs) w) = .next (lone (back kd c v) cs w1) := by
  have hg : (stepG P true { frame := fr, callers := c :: cs, status := .running, dying := none } w).bare = (doReturn P true fr (c :: cs) none v w1).bare := by
    rcases hj with ⟨rfl, ht⟩ | ⟨rfl, k, ht⟩ | ⟨id, rfl, k, ht, hx⟩
    · simp [stepG, hm, stepG.exec, ht, hr, h]
    · simp [stepG, hm, stepG.exec, ht, hr, h]
    · simp [stepG, hm, stepG.exec, ht, hr, h, hx]
  refine step_lone_go ?_
  rw [hg]
  rcases hb with rfl | ⟨rfl, hc⟩
  · simp [doReturn, hk, back]
  · simp [doReturn, hk, back, hc]
end moves

/-- A ROUND. -/
theorem yield_step {ih : Rq → Rs Ans} (hC : CodeOk P ih) {l : Nat} {L : Loc} {args : List Value} {as : Array Value} {s : St} {r : Ans} (h : onYield ih l args s (s.heap.get l) = .ok r) (hS : SRel φ s w) (hL : φ l = some L) (hl : LRel φ args as.toList) (kd : CallKind) (fr : Frame) (cs : List Frame) (hbk : BackOk kd fr) :
    ∃ v s' ψ n w1 v' w', r = .val v s' ∧ (Instr.yield L.blk as).run P w = .ok n w1 ∧ Ran P kd fr cs n w1 v' w' ∧ Post φ s w ψ s' w' ∧ VRel ψ v v' := by
  unfold onYield at h
  split at h <;> first | (cases h; done) | skip
  rename_i pend fn tt n ps as' bd d hb
  obtain ⟨h1, h2⟩ := ifb_no h
  have hn : args.length = ps.length := by
    have := Nat.eq_of_beq_eq_true h1
    simpa [lenN_eq] using this
  obtain ⟨tmps, D, o1, hT, M, hM, rfl⟩ := loopAt hS hb hL
  have has : as.size = args.length := by have := hl.1; simp at this; omega
  obtain ⟨a1, h3, hA⟩ := putAll_ok (φ := φ) (ts := tmps) (ds := []) (l' := ps.zip as.toList) h2 ⟨hT, .nil⟩ (by simp [hn, has]) (fun i t v t' v' e e' => by
    rw [List.getElem?_zip_eq_some] at e e'
    obtain ⟨e1, e2⟩ := e
    obtain ⟨e3, e4⟩ := e'
    rw [e1] at e3
    exact ⟨Option.some.inj e3, hl.2 i v v' e2 e4⟩)
  generalize hts : (ps.zip as.toList).foldl (fun ts p => ts.setIfInBounds p.1 p.2) tmps = ts at hA
  have hy : (Instr.yield L.blk as).run P w = .ok (.round L.blk fn ts as' bd) w := by
    have hg := run_getObj (P := P) o1 (fun _ _ _ e => by cases e)
    have hne : ¬ as.size ≠ (Array.mk ps).size := by simp [has, hn]
    unfold Instr.yield Instr.getLoop
    simp only [Sem.run_bind, hg, Result.andThen_ok, Sem.run_pure, hne, if_false]
    rw [← hts]
    have : ∀ (q : List (Tmp × Value)) (ts : Array Value), q.foldl (fun tmps (x : Tmp × Value) => match x with | (t, a) => tmps.setIfInBounds t a) ts = q.foldl (fun ts p => ts.setIfInBounds p.1 p.2) ts := fun q ts => rfl
    have hz : (Array.mk ps).zip as = ⟨ps.zip as.toList⟩ := by
      apply Array.ext'
      simp
    rw [hz]
    simp
  -- the round's frame
  let b : Fm := ⟨fn, kd, some L.blk⟩
  have hround : Frame.round L.blk fn ts as' bd kd = b.at ts [] [.code as', .beginRound, .code bd] := rfl
  unfold onRoundAssign at h3
  split at h3 <;> first | (cases h3; done) | skip
  rename_i a2 s2 h4
  obtain ⟨e, a2', s2', ψ, w2, ts2, ds2, e1, p1, p2, p3⟩ := hC _ _ _ _ _ _ h4 φ w b ts [] rfl (.of hL) hS hA (.code as') (.inl rfl) [.beginRound, .code bd] (fr :: cs)
  cases e1
  unfold onRoundGo at h3
  split at h3 <;> first | (cases h3; done) | skip
  rename_i pend2 fn2 tt2 n2 ps2 as2 bd2 d2 hb2
  rw [St.put_eq] at h3
  obtain ⟨tmps2, D2, o2, hT2, M2, hM2, rfl⟩ := loopAt p1.rel hb2 (p1.le _ _ hL)
  have hp2 := Post.put (y := .loop .busy pend2 fn2 tt2 n2 ps2 as2 bd2 d2) (q := .loop ⟨.busy, pend2, fn2, tmps2, ⟨ps2⟩, as2, bd2, M2.blk⟩) p1.rel hb2 rfl (p1.le _ _ hL) o2 (.loop (ps := ⟨ps2⟩) .busy pend2 fn2 as2 bd2 hM2 hT2)
  have hbegin : (Instr.beginRound L.blk).run P w2 = .ok () { w2 with heap := w2.heap.setIfInBounds L.blk (.loop ⟨.busy, pend2, fn2, tmps2, ⟨ps2⟩, as2, bd2, M2.blk⟩) } := by
    have hg := run_getObj (P := P) o2 (fun _ _ _ e => by cases e)
    have hs := fun q => run_setObj (P := P) (q := q) o2 (fun _ _ _ e => by cases e)
    simp [Instr.beginRound, Instr.getLoop, hg, hs]
  unfold onRoundBody at h3
  split at h3 <;> first | (cases h3; done) | skip
  rename_i e3 a3 s3 h5
  obtain ⟨e3', a3', s3', χ, w3, ts3, ds3, e2, q1, q2, q3⟩ := hC _ _ _ _ _ _ h5 ψ _ b ts2 ds2 rfl (.of (p1.le _ _ hL)) hp2.rel p2 (.code bd) (.inl rfl) [] (fr :: cs)
  cases e2
  have hpost := (p1.trans hp2).trans q1
  split at h3 <;> first | (cases h3; done) | skip
  rename_i hdf
  unfold onRoundEnd at h3
  split at h3 <;> first | (cases h3; done) | skip
  rename_i st4 pend4 fn4 tt4 n4 ps4 as4 bd4 d4 hb4
  obtain ⟨tmps4, D4, o4, hT4, M4, hM4, rfl⟩ := loopAt q1.rel hb4 (hpost.le _ _ hL)
  have hg4 := run_getObj (P := P) o4 (fun _ _ _ e => by cases e)
  have hs4 := fun q => run_setObj (P := P) (q := q) o4 (fun _ _ _ e => by cases e)
  -- how it begins
  have start : Steps P (lone (Frame.round L.blk fn ts as' bd kd) (fr :: cs) w) (lone (b.at ts2 ds2 [.code bd]) (fr :: cs) { w2 with heap := w2.heap.setIfInBounds L.blk (.loop ⟨.busy, pend2, fn2, tmps2, ⟨ps2⟩, as2, bd2, M2.blk⟩) }) := by
    rw [hround]
    exact Steps.trans p3 (.one (mv_begin rfl hbegin))
  have fin : ∀ (jump : Option Code) (q : LoopState), q = (if jump.isNone then .ready else .done) → s3.put l (.loop q jump fn4 tt4 n4 ps4 as4 bd4 d4) (fun s => Rs.ok (Ans.val (.bool jump.isNone) s)) = .ok r →
      (∃ todo, Steps P (lone (b.at ts2 ds2 [.code bd]) (fr :: cs) { w2 with heap := w2.heap.setIfInBounds L.blk (.loop ⟨.busy, pend2, fn2, tmps2, ⟨ps2⟩, as2, bd2, M2.blk⟩) }) (lone (b.at ts3 ds3 todo) (fr :: cs) w3) ∧
        ((jump = none ∧ todo = []) ∨ (jump = some .ret ∧ ∃ k, todo = .code .ret :: k) ∨ (∃ id, jump = some (.exit id) ∧ ∃ k, todo = .code (.exit id) :: k ∧ exitTo id k = none))) →
      ∃ v s' ψ n w1 v' w', r = .val v s' ∧ (Instr.yield L.blk as).run P w = .ok n w1 ∧ Ran P kd fr cs n w1 v' w' ∧ Post φ s w ψ s' w' ∧ VRel ψ v v' := by
    intro jump q hq hput hgo
    rw [St.put_eq] at hput
    cases hput
    have hp4 := Post.put (y := .loop q jump fn4 tt4 n4 ps4 as4 bd4 d4) (q := .loop ⟨q, jump, fn4, tmps4, ⟨ps4⟩, as4, bd4, M4.blk⟩) q1.rel hb4 rfl (hpost.le _ _ hL) o4 (.loop (ps := ⟨ps4⟩) q jump fn4 as4 bd4 hM4 hT4)
    have hend : (Instr.endRound L.blk jump).run P w3 = .ok (.bool jump.isNone) { w3 with heap := w3.heap.setIfInBounds L.blk (.loop ⟨q, jump, fn4, tmps4, ⟨ps4⟩, as4, bd4, M4.blk⟩) } := by
      subst hq
      simp [Instr.endRound, Instr.getLoop, hg4, hs4]
    refine ⟨_, _, χ, _, w, .bool jump.isNone, _, rfl, hy, ?_, hpost.trans hp4, .bool _⟩
    obtain ⟨todo, h6, h7⟩ := hgo
    exact start.trans (h6.trans (.one (mv_round (fr := b.at ts3 ds3 todo) rfl rfl rfl h7 hend hbk)))
  split at h3
  · exact fin none .ready rfl h3 ⟨[], q3, .inl ⟨rfl, rfl⟩⟩
  · unfold onRoundJump at h3
    split at h3 <;> first | (cases h3; done) | skip
    · refine fin (some .ret) .done rfl h3 ?_
      obtain ⟨k0, h6, _⟩ := q3
      exact ⟨_, h6, .inr (.inl ⟨rfl, k0, rfl⟩)⟩
    · rename_i id
      refine fin (some (.exit id)) .done rfl h3 ?_
      obtain ⟨k0, h6, h7⟩ := q3
      exact ⟨_, h6, .inr (.inr ⟨id, rfl, k0, rfl, by rw [h7 id rfl]; rfl⟩)⟩

/-- CALLS. -/
theorem inv_step {Sm : Summ} (hSm : SmOk P Sm) (hNum : NumOk P) {ih : Rq → Rs Ans} (hC : CodeOk P ih) (hF : DfrOk P ih) {t : Target} {args : List Value} {s : St} {r : Ans} (h : onInv P Sm ih t args s = .ok r) (kd : CallKind) (fr : Frame) (cs : List Frame) (hbk : BackOk kd fr) (hkd : kd = .normal ∨ ∀ f c, t = .fn f c → noSm Sm f = true) {t' : Target} {args' : Array Value} (hS : SRel φ s w) (ht : TgRel φ t t') (hl : LRel φ args args'.toList) :
    ∃ v s' ψ n w1 v' w', r = .val v s' ∧ (invoke t' args').run P w = .ok n w1 ∧ Ran P kd fr cs n w1 v' w' ∧ Post φ s w ψ s' w' ∧ VRel ψ v v' := by
  unfold onInv at h
  cases ht with
  | @fn f f' c c' hf hc =>
    have hargs : LRel φ (args ++ c.toList) (args' ++ c').toList := by
      rw [Array.toList_append]
      exact hl.append hc
    cases hf with
    | func f =>
      simp only at h
      have walk : (Rs.of 122 P.funcs[f]?).bind (fun fn => onFunc P ih f fn (args ++ c.toList) s) = .ok r → ∃ v s' ψ n w1 v' w', r = .val v s' ∧ (callFunc f (args' ++ c')).run P w = .ok n w1 ∧ Ran P kd fr cs n w1 v' w' ∧ Post φ s w ψ s' w' ∧ VRel ψ v v' := by
        intro h
        obtain ⟨fn, h1, h2⟩ := Rs.bind_ok h
        have hfn := Rs.of_ok h1
        unfold onFunc at h2
        split at h2
        · rename_i body hb
          rw [natK_eq] at h2
          obtain ⟨v, s', ψ, v', w', e1, r1, r2, r3⟩ := body_step hC hF hfn hb h2 hS hargs kd fr cs hbk
          have hname := hNum f fn hfn (by rw [hb]; rfl)
          refine ⟨v, s', ψ, .enter f (args' ++ c'), w, v', w', e1, ?_, r1, r2, r3⟩
          show (callFunc f (args' ++ c')).run P w = _
          simp [callFunc, hfn, hname, hb]
        · rename_i hb
          split at h2 <;> first | (cases h2; done) | skip
          rename_i x hx
          obtain ⟨h3, h4⟩ := ifb_no h2
          have h4' : ext P s fn.resultTypes x (args ++ c.toList) (fun v s => Rs.ok (Ans.val v s)) = .ok r := by
            unfold say at h4
            split at h4 <;> first | (cases h4; done) | exact h4
          obtain ⟨v, st', ψ, v', w', r1, r2, r3, r4⟩ := callExt_ok hfn hb hx (of_decide_eq_true h3) hS h4' hargs
          cases r4
          exact ⟨v, st', ψ, .value v', w', v', w', rfl, r1, Ran.value _ _ _ _ _, r2, r3⟩
      split at h
      · rename_i g hg
        unfold orWalk at h
        split at h
        · rename_i q h1
          obtain ⟨v, s1⟩ := q
          cases h
          obtain rfl : kd = .normal := by
            rcases hkd with h | h
            · exact h
            · have := h _ _ rfl
              simp [noSm, hg] at this
          obtain ⟨ψ, n, w1, v', w', r1, r2, r3, r4⟩ := hSm f g hg _ _ _ _ h1 fr cs φ w _ hS hargs
          exact ⟨v, s1, ψ, n, w1, v', w', rfl, r1, r2, r3, r4⟩
        · exact walk h
      · exact walk h
    | @yield l L hL =>
      simp only at h
      obtain ⟨v, s', ψ, n, w1, v', w', r⟩ := yield_step hC h hS hL hl kd fr cs hbk
      exact ⟨v, s', ψ, n, w1, v', w', r⟩
    | _ => cases h

/-- ALL REQUESTS, if regions whose order is open are borne. -/
structure AllOk (P : Program) (Sm : Summ) (ih : Rq → Rs Ans) : Prop where
  inv : InvOk P Sm ih
  code : CodeOk P ih
  run : RunOk P ih
  dfr : DfrOk P ih
theorem allOk_zero {Sm : Summ} : AllOk P Sm (fun _ => .no 0 "fuel") :=
  ⟨fun _ _ _ _ h => (by cases h), fun _ _ _ _ _ _ h => (by cases h), fun _ _ _ _ _ _ _ h => (by cases h), fun _ _ _ h => (by cases h)⟩
theorem allOk_succ {Sm : Summ} (hSm : SmOk P Sm) (hNum : NumOk P) {ih : Rq → Rs Ans} (h : AllOk P Sm ih) (hD : DrawOk P ih) : AllOk P Sm (step P Sm ih) :=
  ⟨fun _ _ _ _ e kd fr cs hbk hkd _ _ _ _ hS ht hl => inv_step hSm hNum h.code h.dfr e kd fr cs hbk hkd hS ht hl,
   fun _ _ _ _ _ _ e _ _ _ _ _ hb hrd hS hA _ hit _ _ => code_step h.inv h.code h.run hD e hb hrd hS hA _ hit,
   fun _ _ _ _ _ _ _ e _ _ _ _ _ _ _ _ hb hrd hS hA hl => run_step h.inv h.run e hb hrd hS hA hl,
   fun _ _ _ e _ _ _ _ _ hS hl hm hfr => dfr_step h.inv h.dfr e hS hl hm hfr⟩
end
end Go.Proofs.YtihplijjkcdcjaaGreatDoor.Abs

