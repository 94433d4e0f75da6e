/-
  Clear, the data of a slice, bytes as a string.
-/
import Derived.Test.YtbakhdgiimjnkaaGreatDoorAbsEff8
namespace Go.Proofs.YtbakhdgiimjnkaaGreatDoor.Abs
section
variable {P : Program} {φ : Phi} {st : St} {w : World} {β : Type}

theorem und_rel : VRel φ undefV (.tuple #[]) := .tuple rfl fun i v v' a => by simp at a

theorem eClear_ok (hS : SRel φ st w) {ts : Array TypeId} {t ty : TypeId} {args : Array Value} {x x' : Value} {k : Value → St → Rs β} {r : β} (ht : ts[0]? = some t) (h : eClear P st t x k = .ok r) (h0 : args[0]? = some x') (hx : VRel φ x x') :
    Act P φ st w (Builtin.clear_ ts ty args) k r := by
  unfold eClear at h
  obtain ⟨u, hu, h1⟩ := Rs.bind_ok h
  have nothing : k undefV st = .ok r → (Builtin.clear_ ts ty args).run P w = .ok (.tuple #[]) w → Act P φ st w (Builtin.clear_ ts ty args) k r :=
    fun a b => ⟨_, st, φ, _, w, b, .refl hS, und_rel, a⟩
  split at h1 <;> first | (cases h1; done) | skip
  · refine nothing h1 ?_
    unfold Builtin.clear_
    rw [ht, h0]
    cases hx
    simp only [Sem.run_bind, undT_run hu, Result.andThen_ok, Sem.run_pure]
  · refine nothing h1 ?_
    unfold Builtin.clear_
    rw [ht, h0]
    cases hx <;> simp only [Sem.run_bind, undT_run hu, Result.andThen_ok, Sem.run_pure]
  · rename_i e b o n c hn
    obtain ⟨z, hz, h2⟩ := Rs.bind_ok h1
    obtain ⟨z1, z2⟩ := zeroT_ok hz
    have hn0 : n ≠ 0 := by
      rintro rfl
      exact hn rfl
    have fin : ∀ L c', φ b = some L → x' = .slice (some ⟨L.blk, L.base + o, none⟩) n c' → Act P φ st w (Builtin.clear_ ts ty args) k r := by
      intro L c' hL hx'
      subst hx'
      obtain ⟨st', w', r1, r2, r3, _⟩ := turn_ok (P := P) hS hL h2 (reps_rel z2 n)
      refine ⟨_, st', φ, _, w', ?_, r2, und_rel, r3⟩
      unfold Builtin.clear_
      rw [ht, h0]
      cases n with
      | zero => exact absurd rfl hn0
      | succ n =>
        simp only [Sem.run_bind, undT_run hu, Result.andThen_ok, Sem.run_pure, z1, zeroCells_eq z2]
        rw [r1]
        rfl
    cases hx with
    | slice o hL => exact fin _ _ hL rfl
    | room hL => exact fin _ _ hL rfl
    | full => exact absurd rfl hn0
  · split at h1 <;> first | (cases h1; done) | skip
    rename_i clock hb
    rw [St.put_eq] at h1
    cases hx with
    | @map _ L hL =>
      obtain ⟨fs, hw, hE⟩ := mapAtL hS hb hL
      have nc : ∀ c e fr, Obj.map ⟨fs⟩ clock ≠ .cells c e fr := fun _ _ _ e => by cases e
      have hp := Post.put (y := .map [] clock) (q := .map #[] clock) hS hb rfl hL hw (EsR.nil.obj L clock)
      refine ⟨_, _, φ, _, _, ?_, hp, und_rel, h1⟩
      unfold Builtin.clear_
      rw [ht, h0]
      simp only [Sem.run_bind, undT_run hu, Result.andThen_ok, Sem.run_pure, run_getObj hw nc, run_setObj hw nc]

theorem eSliceData_ok (hS : SRel φ st w) {ts : Array TypeId} {ty : TypeId} {x x' : Value} {k : Value → St → Rs β} {r : β} (h : eSliceData st x k = .ok r) (hx : VRel φ x x') : Act P φ st w (Builtin.unsafeSliceData_ ts ty #[x']) k r := by
  unfold eSliceData at h
  split at h <;> first | (cases h; done) | skip
  · cases hx
    exact ⟨_, st, φ, _, w, rfl, .refl hS, .nilPtr, h⟩
  · rename_i a n c
    obtain ⟨h1, h2⟩ := ifb_no' h
    have hn : n ≠ 0 := by rintro rfl; cases h1
    have fin : ∀ a' c', c' ≠ 0 → (Builtin.unsafeSliceData_ ts ty #[.slice (some a') n c']).run P w = .ok (.pointer (some a')) w := by
      intro a' c' hc
      show Sem.run P (if c' ≠ 0 then pure (Value.pointer (some a')) else _) w = _
      rw [if_pos hc]
      rfl
    cases hx with
    | slice o hL hc hle => exact ⟨_, st, φ, _, w, fin _ _ (by omega), .refl hS, .ptr o hL, h2⟩
    | room hL hs hc hle => exact ⟨_, st, φ, _, w, fin _ _ (by omega), .refl hS, .ptr _ hL, h2⟩
    | full => exact absurd rfl hn

theorem freeze_eq {b : Nat} {c : Array Value} {e : TypeId} {fr : Nat × Nat} (hw : w.heap[b]? = some (.cells c e fr)) (o n : Nat) (hn : n ≠ 0) :
    w.freeze ⟨b, o, none⟩ n = { w with heap := w.heap.setIfInBounds b (.cells c e (if fr.1 = fr.2 then (o, o + n) else (min fr.1 o, max fr.2 (o + n)))) } := by
  unfold World.freeze
  rw [if_neg hn]
  congr 1
  apply Array.ext_getElem?
  intro i
  rw [Array.getElem?_modify, Array.getElem?_setIfInBounds]
  have hb : b < w.heap.size := (Array.getElem?_eq_some_iff.1 hw).1
  by_cases hi : b = i
  · subst hi
    rw [if_pos rfl, if_pos rfl, if_pos hb, hw]
    simp only [Option.map_some, beq_iff_eq]
  · rw [if_neg hi, if_neg hi]

/-- a block's frozen part grows -/
theorem Post.ice {b : Nat} {l : List Value} {e : TypeId} {s o n : Nat} {opn : Bool} {fz fz' : Nat × Nat} {L : Loc} {c : Array Value} {fr : Nat × Nat} (hS : SRel φ st w) (hb : st.heap.get b = some (.cells l e s opn fz)) (hL : φ b = some L) (hw : w.heap[L.blk]? = some (.cells c e fr)) (hn : n ≠ 0)
    (hf : ∀ m, m + L.base ≤ c.size → (opn = false → m = l.length) → FrozenAt L m fz fr → FrozenAt L m fz' (if fr.1 = fr.2 then (o, o + n) else (min fr.1 o, max fr.2 (o + n)))) :
    Post φ st w φ ⟨st.heap.set b (.cells l e s opn fz'), st.next⟩ (w.freeze ⟨L.blk, o, none⟩ n) := by
  rw [freeze_eq hw o n hn]
  have hbs : L.blk < w.heap.size := (Array.getElem?_eq_some_iff.1 hw).1
  obtain ⟨ob, h1, h2⟩ := hS.mem.objAt hb hL
  rw [hw] at h1
  cases h1
  refine Post.turn hS hb rfl hL ⟨by simp, rfl, rfl, rfl⟩ (fun i hi => Array.getElem?_setIfInBounds_ne (fun e => hi e.symm)) ⟨.cells c e _, by simp [hbs]; rfl, ?_⟩
  cases h2 with
  | closed hb' hn hc hf' => exact .closed hb' hn hc (hf _ (by omega) (fun _ => rfl) hf')
  | room hs hn hl hc hf' ho => exact .room hs hn hl hc (hf _ (by omega) (fun x => by cases x) hf') ho

theorem eBytes_ok (hS : SRel φ st w) {t e : TypeId} {a a' : Value} {k : Value → St → Rs β} {r : β} (ht : P.underlying t = some (.slice e)) (he : P.underlying e = some (.int .u8)) (h : eBytes st a k = .ok r) (ha : VRel φ a a') : Act P φ st w (convert t t a') k r := by
  unfold eBytes at h
  split at h <;> first | (cases h; done) | skip
  rename_i b o n cp
  split at h <;> first | (cases h; done) | skip
  rename_i l e' s opn fz hb
  obtain ⟨h1', h2⟩ := ifb_no h
  rw [St.put_eq] at h2
  obtain ⟨h1, hn⟩ := Bool.and_eq_true_iff.1 h1'
  have hn0 : n ≠ 0 := by rintro rfl; cases hn
  have hfz : (fz.1 = 0 ∧ fz.2 = 0) ∨ fz.1 = open_ := by
    simp only [Bool.or_eq_true, Bool.and_eq_true] at h1
    rcases h1 with ⟨x, y⟩ | x
    · exact .inl ⟨Nat.eq_of_beq_eq_true x, Nat.eq_of_beq_eq_true y⟩
    · exact .inr (Nat.eq_of_beq_eq_true x)
  have fin : ∀ L o' n' c', φ b = some L → a' = .slice (some ⟨L.blk, o', none⟩) n' c' → VRel φ (.slice (some ⟨b, o, none⟩) n cp) a' → Act P φ st w (convert t t a') k r := by
    intro L o' n' c' hL ha' hv
    subst ha'
    obtain ⟨c, fr, hw, _⟩ := hS.mem.cellsAt hb hL
    have hp := Post.ice (o := c.size) (n := 1) (fz' := (open_, open_)) hS hb hL hw (by decide) (by
      intro m hm _ hf
      obtain ⟨f1, f2, f3, f4⟩ := hf
      have key : L.base + m ≤ (if fr.1 = fr.2 then (c.size, c.size + 1) else (min fr.1 c.size, max fr.2 (c.size + 1))).1 := by
        split
        · simp only; omega
        · rename_i hne
          simp only
          rcases hfz with ⟨x, y⟩ | x
          · have := f2 (by rw [x]; decide) (by omega)
            omega
          · rcases f4 x with y | y <;> omega
      refine ⟨fun i hi g1 g2 => by omega, fun g => absurd g (by decide), ?_, fun _ => .inr key⟩
      split
      · simp
      · simp only; omega)
    refine ⟨_, _, φ, _, _, ?_, hp, hv, h2⟩
    unfold convert
    simp only [Sem.run_bind, run_underlying ht, Result.andThen_ok, run_underlying he, beq_self_eq_true]
    unfold markStringish
    simp only [Sem.run_bind, run_shape, shape_of hw, Result.andThen_ok, run_freeze, Sem.run_pure]
  have ha0 := ha
  cases ha with
  | slice o hL => exact fin _ _ _ _ hL rfl ha0
  | room hL => exact fin _ _ _ _ hL rfl ha0
  | full a hL ho => exact absurd rfl hn0

theorem byteT_ok {e : TypeId} (h : byteT P e = .ok true) : P.underlying e = some (.int .u8) ∧ P.cellsOf e = 1 := by
  unfold byteT at h
  obtain ⟨u, hu, h1⟩ := Rs.bind_ok h
  split at h1
  · obtain ⟨s, h2, h3⟩ := Rs.bind_ok h1
    cases hs : Nat.beq s 1 with
    | false => rw [hs] at h3; cases h3
    | true =>
      have := Nat.eq_of_beq_eq_true hs
      subst this
      exact ⟨undT_ok hu, szT_cells h2⟩
  · cases h1
theorem lies {e u : TypeId} (he : P.underlying e = some (.int .u8)) (hs : P.cellsOf e = 1) (hu : P.underlying u = some (.int .u8)) {count off n : Nat} (h : off + n ≤ count) : liesAt P P.depth e (count / P.cellsOf e) off u n = true := by
  have hd : P.depth = (2 * (P.types.size + Made.depth) + 1) + 1 := rfl
  have hsl : sameLayout P P.depth e u = true := by
    rw [hd]
    unfold sameLayout
    rw [he, hu]
    simp
  have hrow : rowAt P (fun t => sameLayout P P.depth t u) P.depth e (count / P.cellsOf e) off n = true := by
    rw [hs, hd]
    unfold rowAt
    rw [hs]
    simp only [Nat.one_ne_zero, if_false, Nat.mod_one, Nat.div_one]
    rw [← hd, hsl]
    simp [h]
  rw [hd]
  unfold liesAt
  rw [hrow]
  rfl
theorem run_loadBytes {b : Nat} {c : Array Value} {e : TypeId} {fr : Nat × Nat} (hw : w.heap[b]? = some (.cells c e fr)) : ∀ {ns : List Int} {o : Nat} (acc : ByteArray), (∀ i, i < ns.length → c[o + i]? = some (.int .u8 (ns[i]?.getD 0))) →
    (loadBytes ⟨b, o, none⟩ acc ns.length).run P w = .ok ⟨⟨acc.data.toList ++ ns.map fun n => UInt8.ofNat n.toNat⟩⟩ w
  | [], o, acc, _ => by simp [loadBytes]
  | n :: ns, o, acc, h => by
    have h0 := h 0 (by simp)
    simp only [Nat.add_zero, List.getElem?_cons_zero, Option.getD_some] at h0
    simp only [List.length_cons, loadBytes, Sem.run_bind, run_load, cell_of hw, h0, Result.andThen_ok]
    rw [add_none, run_loadBytes hw (acc.push n.toNat.toUInt8) (fun i hi => by
      have := h (i + 1) (by simp; omega)
      rw [show o + 1 + i = o + (i + 1) by omega, this]
      simp)]
    simp [ByteArray.push]

theorem eString_ok (hS : SRel φ st w) {ts : Array TypeId} {ty : TypeId} {p n p' n' : Value} {k : Value → St → Rs β} {r : β} (h : eString P st ts p n k = .ok r) (hp : VRel φ p p') (hn : VRel φ n n') : Act P φ st w (Builtin.unsafeString_ ts ty #[p', n']) k r := by
  unfold eString at h
  obtain ⟨tb, htb, h1⟩ := Rs.bind_ok h
  unfold ptrByteT at htb
  obtain ⟨t, ht, h2⟩ := Rs.bind_ok htb
  have ht0 : ts[0]? = some t := by
    have := Rs.of_ok ht
    rw [List.head?_eq_getElem?] at this
    simpa using this
  obtain ⟨u, hu, h3⟩ := Rs.bind_ok h2
  split at h1 <;> first | (cases h1; done) | skip
  · cases hp
    cases hn
    refine ⟨_, st, φ, _, w, ?_, .refl hS, .string _, h1⟩
    show Sem.run P (asInt (Value.int _ (Int.ofNat 0)) >>= _) w = _
    simp [asInt, asIntOf, ht0]
    rfl
  · rename_i kk
    cases hn
    have fin : ∀ a, p' = .pointer (some a) → Act P φ st w (Builtin.unsafeString_ ts ty #[p', .int kk (Int.ofNat 0)]) k r := by
      intro a ha
      subst ha
      refine ⟨_, st, φ, _, w, ?_, .refl hS, .string _, h1⟩
      show Sem.run P (asInt (Value.int kk (Int.ofNat 0)) >>= _) w = _
      simp [asInt, asIntOf, ht0]
      rfl
    cases hp
    exact fin _ rfl
  · rename_i b kk m hm0
    split at h1 <;> first | (cases h1; done) | skip
    rename_i l e s opn hi hb
    obtain ⟨eb, heb, h4⟩ := Rs.bind_ok h1
    obtain ⟨h5, h6⟩ := ifb_no h4
    obtain ⟨bs, hbs, h7⟩ := Rs.bind_ok h6
    rw [St.put_eq] at h7
    simp only [Bool.and_eq_true, Nat.ble_eq] at h5
    obtain ⟨⟨rfl, rfl⟩, hmle⟩ := h5
    obtain ⟨he, hes⟩ := byteT_ok heb
    have hm : m ≠ 0 := by
      rintro rfl
      exact hm0 rfl
    split at h3 <;> first | (cases h3; done) | skip
    rename_i ue
    obtain ⟨hue, _⟩ := byteT_ok h3
    cases hn
    cases hp with
    | @ptr _ L _ hL =>
      obtain ⟨c, fr, hw, hc, hfz, hcl, hop⟩ := hS.mem.cellsAt hb hL
      have hbs' := Rs.of_ok hbs
      rw [takeN_eq] at hbs'
      split at hbs' <;> first | (cases hbs'; done) | skip
      rename_i hml
      have hbs2 : cellBytes (l.take m) = some bs := hbs'
      obtain ⟨g1, g2⟩ := cellBytes_some hbs2
      have hlen : (l.take m).length = m := by simp; omega
      let ns : List Int := (l.take m).map fun v => match v with | .int _ n => n | _ => 0
      have hns : ns.length = m := by simp [ns]; omega
      have hcell : ∀ i, i < ns.length → c[L.base + 0 + i]? = some (.int .u8 (ns[i]?.getD 0)) := by
        intro i hi
        have hi' : i < (l.take m).length := by omega
        obtain ⟨n, e1, e2⟩ := g2 i _ (List.getElem?_eq_getElem hi')
        have hl : l[i]? = some (.int .u8 n) := by
          rw [← e1, ← List.getElem?_eq_getElem hi', List.getElem?_take, if_pos (by omega)]
        obtain ⟨v', e3, e4⟩ := hc i _ hl
        cases e4
        rw [Nat.add_zero, e3]
        simp only [ns, List.getElem?_map, List.getElem?_eq_getElem hi', e1, Option.map_some, Option.getD_some]
      have hbytes : bs = ns.map fun n => UInt8.ofNat n.toNat := by
        apply List.ext_getElem?
        intro i
        by_cases hi : i < (l.take m).length
        · obtain ⟨n, e1, e2⟩ := g2 i _ (List.getElem?_eq_getElem hi)
          rw [e2]
          simp only [ns, List.getElem?_map, List.getElem?_eq_getElem hi, e1, Option.map_some]
        · rw [List.getElem?_eq_none (by omega), List.getElem?_eq_none (by simp only [List.length_map]; omega)]
      have hld := run_loadBytes (P := P) hw (ns := ns) ByteArray.empty hcell
      rw [hns] at hld
      have hsz : L.base + 0 + m ≤ c.size := by
        have := hcell (m - 1) (by omega)
        have := (Array.getElem?_eq_some_iff.1 this).1
        omega
      have hp := Post.ice (o := L.base + 0) (n := m) (fz' := (0, max m hi)) hS hb hL hw hm (by
        intro q hq _ hf
        obtain ⟨f1, f2, f3, f4⟩ := hf
        have f2' : fr.1 < fr.2 → L.base ≤ fr.1 ∧ fr.2 ≤ L.base + hi := fun x => by simpa using f2 (by show 0 < open_; decide) x
        refine ⟨fun i g1 g2 g3 => ⟨Nat.zero_le _, ?_⟩, fun _ g => ?_, ?_, fun g => absurd g (by show ¬ (0 = open_); decide)⟩
        · show i < max m hi
          split at g3
          · have : L.base + i < L.base + 0 + m := g3
            omega
          · rename_i hne
            have := f2' (by omega)
            have : L.base + i < max fr.2 (L.base + 0 + m) := g3
            omega
        · show L.base + 0 ≤ _ ∧ _ ≤ L.base + max m hi
          split
          · simp only; omega
          · rename_i hne
            have := f2' (by omega)
            simp only; omega
        · split
          · simp only; omega
          · simp only; omega)
      refine ⟨_, _, φ, _, _, ?_, hp, .string _, h7⟩
      have n0 : ¬ ((m : Int) < 0) := by omega
      have n1 : ¬ ((m : Int) > IntKind.i64.max) := by
        have h2 : IntKind.i64.max = 9223372036854775807 := by decide
        rw [h2]; omega
      have n2 : ¬ ((m : Int) = 0) := by omega
      have hel : (elemOf t).run P w = .ok ue w := by
        unfold elemOf
        simp only [Sem.run_bind, undT_run hu, Result.andThen_ok, Sem.run_pure]
      have hva : (variablesAt ⟨L.blk, L.base + 0, none⟩ ue m).run P w = .ok true w := by
        unfold variablesAt
        simp only [Sem.run_bind, run_program, run_shape, shape_of hw, Result.andThen_ok, Sem.run_pure, lies he hes hue hsz]
      show Sem.run P (asInt (Value.int kk (Int.ofNat m)) >>= _) w = _
      simp only [asInt, asIntOf, Int.ofNat_eq_natCast, Sem.run_bind, Sem.run_pure, Result.andThen_ok, ht0, if_neg n0, if_neg n1, if_neg n2, hel, Int.toNat_natCast, hva, if_true, hld, run_freeze, hbytes]
      rfl
end
end Go.Proofs.YtbakhdgiimjnkaaGreatDoor.Abs
