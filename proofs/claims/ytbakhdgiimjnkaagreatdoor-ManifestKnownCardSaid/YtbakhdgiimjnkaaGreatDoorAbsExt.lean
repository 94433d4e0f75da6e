/-
  Functions without a body.
-/
import Derived.Test.YtbakhdgiimjnkaaGreatDoorAbsEff10
namespace Go.Proofs.YtbakhdgiimjnkaaGreatDoor.Abs
section
variable {P : Program} {φ : Phi} {st : St} {w : World} {β : Type}

theorem run_ext {f : FuncId} {fn : Func} {e : Array Value → Sem Value} {args : Array Value} (hf : P.funcs[f]? = some fn) (hname : fn.name ≠ "runtime.NumGoroutine") (hb : fn.body = none) (hn : Extern.findNext fn = none) (he : Extern.find fn = some e) :
    (callFunc f args).run P w = (do pure (Next.value (← e args)) : Sem Next).run P w := by
  simp [callFunc, hf, hname, hb, hn, he]

theorem look_of {fn : Func} {n : String} {e : Array Value → Sem Value} (hn : fn.name = n) (ho : fn.origin = "") (h1 : (Extern.allGenericRows.lookup n).isNone = true) (h2 : (Extern.allTypedRows.lookup n).isNone = true) (h3 : Extern.allRows.lookup n = some e)
    (h4 : (Extern.allNextRows.lookup n).isNone = true) : Extern.findNext fn = none ∧ Extern.find fn = some e := by
  have h5 : (Extern.allNextRows.lookup "").isNone = true := by rfl
  rw [Option.isNone_iff_eq_none] at h1 h2 h4 h5
  constructor
  · simp only [Extern.findNext, hn, ho, h4, h5]
    rfl
  · simp only [Extern.find, hn, h1, h2, h3]
    rfl

theorem args1 {v : Value} {as : Array Value} (h : LRel φ [v] as.toList) : ∃ v', as = #[v'] ∧ VRel φ v v' := by
  obtain ⟨l⟩ := as
  match l, h with
  | [v'], h => exact ⟨v', rfl, h.2 0 v v' rfl rfl⟩
  | [], h => exact absurd h.1 (by simp)
  | _ :: _ :: _, h => exact absurd h.1 (by simp)
theorem args2 {u v : Value} {as : Array Value} (h : LRel φ [u, v] as.toList) : ∃ u' v', as = #[u', v'] ∧ VRel φ u u' ∧ VRel φ v v' := by
  obtain ⟨l⟩ := as
  match l, h with
  | [u', v'], h => exact ⟨u', v', rfl, h.2 0 u u' rfl rfl, h.2 1 v v' rfl rfl⟩
  | [], h => exact absurd h.1 (by simp)
  | [_], h => exact absurd h.1 (by simp)
  | _ :: _ :: _ :: _, h => exact absurd h.1 (by simp)

/-- a cell, and a store into it as an atomic step -/
theorem cellAt (hS : SRel φ st w) {b o : Nat} {l : List Value} {e : TypeId} {s : Nat} {opn : Bool} {fz : Nat × Nat} {L : Loc} {v : Value} (hb : st.heap.get b = some (.cells l e s opn fz)) (hL : φ b = some L) (hv : l[o]? = some v) : ∃ v', w.cell? ⟨L.blk, L.base + o, none⟩ = some v' ∧ VRel φ v v' := by
  obtain ⟨c, fr, hw, hc, _⟩ := hS.mem.cellsAt hb hL
  obtain ⟨v', h1, h2⟩ := hc o v hv
  exact ⟨v', by rw [cell_of hw, h1], h2⟩
theorem store_as {a : Addr} {v u : Value} {w' : World} (h : (storeCells a [v]).run P w = .ok () w') (hv : v.oneCell' = true) (hc : w.cell? ⟨a.block, a.off, none⟩ = some u) (hs : a.spot = none) (m : Mode) : (store a v m).run P w = .ok () w' := by
  obtain ⟨b, o, s⟩ := a
  cases hs
  unfold storeCells at h
  rw [Sem.run_bind, add_none, Nat.add_zero, run_store _ _ _ _ _ hv] at h
  rw [run_store _ _ _ _ _ hv]
  simp only [hc] at h ⊢
  split at h
  · cases h
  · rename_i hf
    rw [if_neg hf]
    exact h

theorem xAdd_ok (hS : SRel φ st w) {kd : IntKind} {rt : Array TypeId} {args : List Value} {as : Array Value} {k : Value → St → Rs β} {r : β} (h : ext P st rt (.add kd) args k = .ok r) (hl : LRel φ args as.toList) :
    Act P φ st w (Extern.Atomic.update (Op.intArith .add) kd true as) k r := by
  unfold ext at h
  split at h <;> first | (cases h; done) | contradiction | skip
  rename_i kd' b o ky y heq
  cases heq
  split at h <;> first | (cases h; done) | skip
  rename_i l e s opn fz hb
  obtain ⟨v, h1, h2⟩ := Rs.bind_ok h
  split at h2 <;> first | (cases h2; done) | skip
  rename_i kn n
  obtain ⟨h3, h4⟩ := ifb_no h2
  rw [intK_eq] at h4
  have hk : kd = kn := of_decide_eq_true h3
  subst hk
  obtain ⟨p', y', rfl, hp, hy⟩ := args2 hl
  cases hy
  cases hp with
  | @ptr _ L _ hL =>
    obtain ⟨v', c1, c2⟩ := cellAt hS hb hL (Rs.of_ok h1)
    cases c2
    obtain ⟨st', w', r1, r2, r3, _⟩ := turn_ok (P := P) hS hL h4 (LRel.cons (.int kd (kd.wrap (n + y))) (.nil φ))
    have hst := store_as r1 rfl c1 rfl .atomic
    refine ⟨_, st', φ, _, w', ?_, r2, .int _ _, r3⟩
    show Sem.run P (asAddr (.pointer (some ⟨L.blk, L.base + o, none⟩)) >>= fun a => Extern.Atomic.read (.int kd) a >>= fun old => asInt old >>= fun x => asInt (Value.int ky y) >>= fun z => Op.intArith .add kd x z >>= fun new => store a new .atomic >>= fun _ => pure (if true then new else old)) w = _
    simp only [asAddr, Sem.run_bind, Sem.run_pure, Result.andThen_ok, Extern.Atomic.read, run_load, c1, if_true, asInt, asIntOf, Op.intArith, hst]
theorem xLoad_ok (hS : SRel φ st w) {kd : IntKind} {rt : Array TypeId} {args : List Value} {as : Array Value} {k : Value → St → Rs β} {r : β} (h : ext P st rt (.load kd) args k = .ok r) (hl : LRel φ args as.toList) :
    Act P φ st w (Extern.Atomic.loadT (.int kd) as) k r := by
  unfold ext at h
  split at h <;> first | (cases h; done) | contradiction | skip
  rename_i kd' b o heq
  cases heq
  split at h <;> first | (cases h; done) | skip
  rename_i l e s opn fz hb
  obtain ⟨v, h1, h2⟩ := Rs.bind_ok h
  split at h2 <;> first | (cases h2; done) | skip
  rename_i kn n
  obtain ⟨h3, h4⟩ := ifb_no h2
  have hk : kd = kn := of_decide_eq_true h3
  subst hk
  obtain ⟨p', rfl, hp⟩ := args1 hl
  cases hp with
  | @ptr _ L _ hL =>
    obtain ⟨v', c1, c2⟩ := cellAt hS hb hL (Rs.of_ok h1)
    cases c2
    refine ⟨_, st, φ, _, w, ?_, .refl hS, .int kd n, h4⟩
    show Sem.run P (asAddr (.pointer (some ⟨L.blk, L.base + o, none⟩)) >>= _) w = _
    simp only [asAddr, Sem.run_bind, Sem.run_pure, Result.andThen_ok, Extern.Atomic.read, run_load, c1, if_true]
theorem xSame_ok (hS : SRel φ st w) {rt : Array TypeId} {args : List Value} {as : Array Value} {k : Value → St → Rs β} {r : β} (h : ext P st rt .same args k = .ok r) (hl : LRel φ args as.toList) : Act P φ st w (Extern.AbiNoEscape.same as) k r := by
  unfold ext at h
  split at h <;> first | (cases h; done) | contradiction | skip
  obtain ⟨p', rfl, hp⟩ := args1 hl
  exact ⟨_, st, φ, _, w, rfl, .refl hS, hp, h⟩
theorem xClone_ok (hS : SRel φ st w) {rt : Array TypeId} {args : List Value} {as : Array Value} {k : Value → St → Rs β} {r : β} (h : ext P st rt .clone args k = .ok r) (hl : LRel φ args as.toList) : Act P φ st w (Extern.MapsClone.clone as) k r := by
  unfold ext at h
  split at h <;> first | (cases h; done) | contradiction | skip
  split at h <;> first | (cases h; done) | skip
  rename_i es clock hb
  rw [St.new_eq] at h
  obtain ⟨p', rfl, hp⟩ := args1 hl
  cases hp with
  | iface t hv =>
    cases hv with
    | @map _ L hL =>
      obtain ⟨fs, hw, hE⟩ := mapAtL hS hb hL
      have hg := run_getObj (P := P) hw (fun _ _ _ e => by cases e)
      have hp := Post.new hS (.map es clock) (.map ⟨fs⟩ clock) ⟨w.heap.size, 0, 0, 0⟩ rfl (fun ψ hle => (hE.mono hle).obj _ _)
      refine ⟨_, _, _, .iface _ (.map (some w.heap.size)), _, ?_, hp, .iface _ (.map (L := ⟨w.heap.size, 0, 0, 0⟩) (Phi.add_same _ _ _)), h⟩
      show Sem.run P (getObj L.blk >>= _) w = _
      simp only [Sem.run_bind, hg, Result.andThen_ok, run_newObj, Sem.run_pure]

theorem xStore_ok (hS : SRel φ st w) {rt : Array TypeId} {args : List Value} {as : Array Value} {k : Value → St → Rs β} {r : β} (h : ext P st rt .store args k = .ok r) (hl : LRel φ args as.toList) : Act P φ st w (Extern.Atomic.storeT as) k r := by
  unfold ext at h
  split at h <;> first | (cases h; done) | contradiction | skip
  rename_i b o v _
  obtain ⟨p', v', rfl, hp, hv⟩ := args2 hl
  have hcell : ∃ l e s opn fz, st.heap.get b = some (.cells l e s opn fz) ∧ (∃ u, l[o]? = some u) ∧ oneB v = true := by
    unfold turn at h
    split at h <;> first | (cases h; done) | skip
    rename_i l e s opn fz hb
    obtain ⟨h1, h2⟩ := ifb_no h
    obtain ⟨l', h3, _⟩ := Rs.bind_ok h2
    obtain ⟨h4, _⟩ := over_some (Rs.of_ok h3)
    simp only [List.length_cons, List.length_nil] at h4
    simp only [Bool.and_eq_true, List.all_cons, List.all_nil] at h1
    exact ⟨l, e, s, opn, fz, hb, ⟨_, List.getElem?_eq_getElem (by omega)⟩, h1.2.1⟩
  obtain ⟨l, e, s, opn, fz, hb, ⟨u, hu⟩, h1⟩ := hcell
  cases hp with
  | @ptr _ L _ hL =>
    obtain ⟨u', c1, _⟩ := cellAt hS hb hL hu
    obtain ⟨st', w', r1, r2, r3, _⟩ := turn_ok (P := P) hS hL h (LRel.cons hv (.nil φ))
    have hst := store_as r1 (hv.one h1) c1 rfl .atomic
    refine ⟨_, st', φ, .tuple #[], w', ?_, r2, und_rel, r3⟩
    show Sem.run P (asAddr (.pointer (some ⟨L.blk, L.base + o, none⟩)) >>= fun a => store a v' .atomic >>= fun _ => pure Extern.Atomic.none_) w = _
    simp only [asAddr, Sem.run_bind, Sem.run_pure, Result.andThen_ok, hst]
    rfl
end
end Go.Proofs.YtbakhdgiimjnkaaGreatDoor.Abs
