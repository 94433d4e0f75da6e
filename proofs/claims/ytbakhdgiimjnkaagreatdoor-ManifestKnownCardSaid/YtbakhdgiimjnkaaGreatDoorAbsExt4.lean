/-
  All functions without a body.
-/
import Derived.Test.YtbakhdgiimjnkaaGreatDoorAbsExt3
namespace Go.Proofs.YtbakhdgiimjnkaaGreatDoor.Abs
section
variable {P : Program} {φ : Phi} {st : St} {w : World} {β : Type}

theorem lookup_mem {α : Type} {n : String} {x : α} : ∀ {l : List (String × α)}, l.lookup n = some x → (n, x) ∈ l
  | [], h => by cases h
  | (m, y) :: l, h => by
    rw [List.lookup_cons] at h
    split at h
    · rename_i he
      obtain rfl : n = m := by simpa using he
      cases h
      exact List.mem_cons_self
    · exact List.mem_cons_of_mem _ (lookup_mem h)

theorem look_ofT {fn : Func} {n : String} {e : Extern.Typed} (hn : fn.name = n) (ho : fn.origin = "") (h1 : (Extern.allGenericRows.lookup n).isNone = true) (h2 : Extern.allTypedRows.lookup n = some e)
    (h4 : (Extern.allNextRows.lookup n).isNone = true) : Extern.findNext fn = none ∧ Extern.find fn = some (e fn.params fn.resultTypes) := by
  have h5 : (Extern.allNextRows.lookup "").isNone = true := by rfl
  rw [Option.isNone_iff_eq_none] at h1 h4 h5
  constructor
  · simp only [Extern.findNext, hn, ho, h4, h5]
    rfl
  · simp only [Extern.find, hn, h1, h2]
    rfl

theorem ext_ok {fn : Func} {x : Ext} (hx : extOf fn.name = some x) (ho : fn.origin = "") (hS : SRel φ st w) {args : List Value} {as : Array Value} {k : Value → St → Rs β} {r : β}
    (h : ext P st fn.resultTypes x args k = .ok r) (hl : LRel φ args as.toList) : fn.name ≠ "runtime.NumGoroutine" ∧ ∃ e, Extern.findNext fn = none ∧ Extern.find fn = some e ∧ Act P φ st w (e as) k r := by
  have key : ∀ {e : Array Value → Sem Value}, (Extern.findNext fn = none ∧ Extern.find fn = some e) → Act P φ st w (e as) k r → ∃ e, Extern.findNext fn = none ∧ Extern.find fn = some e ∧ Act P φ st w (e as) k r :=
    fun h1 h2 => ⟨_, h1.1, h1.2, h2⟩
  have hm := lookup_mem hx
  generalize hn : fn.name = n at hm
  unfold extTable at hm
  simp only [List.mem_cons, Prod.mk.injEq, List.not_mem_nil, or_false] at hm
  rcases hm with ⟨e, rfl⟩ | ⟨e, rfl⟩ | ⟨e, rfl⟩ | ⟨e, rfl⟩ | ⟨e, rfl⟩ | ⟨e, rfl⟩ | ⟨e, rfl⟩ | ⟨e, rfl⟩ | ⟨e, rfl⟩ | ⟨e, rfl⟩ | ⟨e, rfl⟩ | ⟨e, rfl⟩ | ⟨e, rfl⟩ | ⟨e, rfl⟩ | ⟨e, rfl⟩ | ⟨e, rfl⟩ | ⟨e, rfl⟩ | ⟨e, rfl⟩ | ⟨e, rfl⟩ | ⟨e, rfl⟩ | ⟨e, rfl⟩ <;> subst e <;> refine ⟨by simp, ?_⟩
  · exact key (look_of hn ho (by rfl) (by rfl) (e := Extern.Atomic.update (Op.intArith .add) .i64 true) (by rfl) (by rfl)) (xAdd_ok hS h hl)
  · exact key (look_of hn ho (by rfl) (by rfl) (e := Extern.Atomic.update (Op.intArith .add) .i32 true) (by rfl) (by rfl)) (xAdd_ok hS h hl)
  · exact key (look_of hn ho (by rfl) (by rfl) (e := Extern.Atomic.update (Op.intArith .add) .u64 true) (by rfl) (by rfl)) (xAdd_ok hS h hl)
  · exact key (look_of hn ho (by rfl) (by rfl) (e := Extern.Atomic.loadT (.int .i64)) (by rfl) (by rfl)) (xLoad_ok hS h hl)
  · exact key (look_of hn ho (by rfl) (by rfl) (e := Extern.Atomic.loadT (.int .u64)) (by rfl) (by rfl)) (xLoad_ok hS h hl)
  · exact key (look_of hn ho (by rfl) (by rfl) (e := Extern.Atomic.loadT (.int .u32)) (by rfl) (by rfl)) (xLoad_ok hS h hl)
  · exact key (look_of hn ho (by rfl) (by rfl) (e := Extern.Atomic.storeT) (by rfl) (by rfl)) (xStore_ok hS h hl)
  · exact key (look_of hn ho (by rfl) (by rfl) (e := Extern.Atomic.casT (.int .i32)) (by rfl) (by rfl)) (xCas_ok hS h hl)
  · exact key (look_of hn ho (by rfl) (by rfl) (e := Extern.AbiNoEscape.same) (by rfl) (by rfl)) (xSame_ok hS h hl)
  · exact key (look_of hn ho (by rfl) (by rfl) (e := Extern.MapsClone.clone) (by rfl) (by rfl)) (xClone_ok hS h hl)
  · unfold ext at h; split at h <;> first | (cases h; done) | contradiction
  · unfold ext at h; split at h <;> first | (cases h; done) | contradiction
  · exact key (look_of hn ho (by rfl) (by rfl) (e := Extern.BytealgIndexByte.indexByte) (by rfl) (by rfl)) (xIndexByte_ok hS h hl)
  · exact key (look_of hn ho (by rfl) (by rfl) (e := Extern.BytealgIndexByte.indexByte) (by rfl) (by rfl)) (xIndexByte_ok hS h hl)
  · exact key (look_of hn ho (by rfl) (by rfl) (e := Extern.BytealgCompare.compare) (by rfl) (by rfl)) (xCmp_ok hS h hl)
  · exact key (look_of hn ho (by rfl) (by rfl) (e := Extern.BytealgCount.count) (by rfl) (by rfl)) (xCount_ok hS h hl)
  · exact key (look_of hn ho (by rfl) (by rfl) (e := fun _ => do mark .disable; pure Extern.Race.none_) (by rfl) (by rfl)) (xNothing_ok (m := .disable) (as := as) hS h)
  · exact key (look_of hn ho (by rfl) (by rfl) (e := fun _ => do mark .enable; pure Extern.Race.none_) (by rfl) (by rfl)) (xNothing_ok (m := .enable) (as := as) hS h)
  · exact key (look_of hn ho (by rfl) (by rfl) (e := Extern.Race.marked .acquire) (by rfl) (by rfl)) (xTouch_ok (m := .acquire) hS h hl)
  · exact key (look_of hn ho (by rfl) (by rfl) (e := Extern.Race.marked .releaseMerge) (by rfl) (by rfl)) (xTouch_ok (m := .releaseMerge) hS h hl)
  · exact key (look_ofT hn ho (by rfl) (e := Extern.BytealgMakeNoZero.makeNoZero) (by rfl) (by rfl)) (xMake_ok hS h hl)

/-- a function without a body, called -/
theorem callExt_ok {f : FuncId} {fn : Func} {x : Ext} (hf : P.funcs[f]? = some fn) (hb : fn.body = none) (hx : extOf fn.name = some x) (ho : fn.origin = "") (hS : SRel φ st w) {args : List Value} {as : Array Value} {k : Value → St → Rs β} {r : β}
    (h : ext P st fn.resultTypes x args k = .ok r) (hl : LRel φ args as.toList) : ∃ v st' ψ v' w', (callFunc f as).run P w = .ok (.value v') w' ∧ Post φ st w ψ st' w' ∧ VRel ψ v v' ∧ k v st' = .ok r := by
  obtain ⟨h0, e, h1, h2, v, st', ψ, v', w', h3, h4⟩ := ext_ok hx ho hS h hl
  exact ⟨v, st', ψ, v', w', by rw [run_ext (w := w) (args := as) hf h0 hb h1 h2]; simp [h3], h4⟩
end
end Go.Proofs.YtbakhdgiimjnkaaGreatDoor.Abs
