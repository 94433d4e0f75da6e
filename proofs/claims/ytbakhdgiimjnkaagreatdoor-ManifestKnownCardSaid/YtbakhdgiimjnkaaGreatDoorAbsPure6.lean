/-
  All operations that change nothing: what the evaluator says is what the model does.
-/
import Derived.Test.YtbakhdgiimjnkaaGreatDoorAbsPure5
namespace Go.Proofs.YtbakhdgiimjnkaaGreatDoor.Abs

section
variable {P : Program} {φ : Phi} {h : Tr AObj} {w : World}

theorem foldl_push (f : Int → UInt8) : ∀ (ns : List Int) (s : ByteArray), ns.foldl (fun r n => r.push (f n)) s = ⟨⟨s.data.toList ++ ns.map f⟩⟩
  | [], s => by simp
  | n :: ns, s => by
    rw [List.foldl_cons, foldl_push f ns]
    congr 2
    simp [ByteArray.push]
theorem cells_ints : ∀ {cs cs' : List Value} {bs : List UInt8}, cellBytes cs = some bs → LRel φ cs cs' → ∃ ns : List Int, cs' = ns.map (Value.int .u8) ∧ bs = ns.map fun n => UInt8.ofNat n.toNat
  | [], cs', bs, e, h => by
    cases e
    have : cs' = [] := List.length_eq_zero_iff.1 h.1.symm
    exact ⟨[], by simp [this], rfl⟩
  | x :: cs, [], bs, e, h => by have := h.1; simp at this
  | x :: cs, y :: cs', bs, e, h => by
    unfold cellBytes at e
    split at e
    · cases ‹x :: cs = []›
    · rename_i n l' hh
      obtain ⟨rfl, rfl⟩ := by simpa using hh
      cases hc : cellBytes cs with
      | none => rw [hc] at e; cases e
      | some ds =>
        rw [hc] at e
        obtain rfl : UInt8.ofNat n.toNat :: ds = bs := Option.some.inj e
        have hy : VRel φ (.int .u8 n) y := h.2 0 _ y rfl rfl
        have hr : LRel φ cs cs' := ⟨by simpa using h.1, fun i v v' a b => h.2 (i + 1) v v' (by simpa using a) (by simpa using b)⟩
        obtain ⟨ns, rfl, rfl⟩ := cells_ints hc hr
        cases hy
        exact ⟨n :: ns, rfl, rfl⟩
    · cases e

theorem pConv_ok (hm : HRel φ h w) {s d : TypeId} {a a' v : Value} (e : pConv P h s d a = .ok v) (ha : VRel φ a a') : ∃ v', (convert s d a').run P w = .ok v' w ∧ VRel φ v v' := by
  unfold pConv at e
  obtain ⟨us, hs, e1⟩ := Rs.bind_ok e
  obtain ⟨u, hd, e2⟩ := Rs.bind_ok e1
  have rs := undT_run hs w
  have rd := undT_run hd w
  have Us := undT_ok hs
  have Ud := undT_ok hd
  split at e2
  · unfold pConvI at e2
    split at e2 <;> first | (cases e2; done) | skip
    cases e2
    cases ha
    refine ⟨_, ?_, .int _ _⟩
    unfold convert
    simp [rs, rd, Conv.intToInt]
  · unfold pConvS at e2
    split at e2
    · cases e2
      cases ha
      refine ⟨_, ?_, .string _⟩
      unfold convert
      simp [rs, rd]
    · rename_i p n c
      split at e2 <;> first | (cases e2; done) | skip
      rename_i el
      obtain ⟨ue, he, e3⟩ := Rs.bind_ok e2
      split at e3 <;> first | (cases e3; done) | skip
      have Ue := undT_ok he
      split at e3
      · cases e3
        cases ha
        refine ⟨_, ?_, .string _⟩
        rw [run_convert_bytes_string w s d el _ _ _ Us Ue Ud]
        rfl
      · rename_i b o
        split at e3 <;> first | (cases e3; done) | skip
        rename_i l _ _ _ _ hb
        obtain ⟨bs, h1, e4⟩ := Rs.bind_ok e3
        cases e4
        have h1 := Rs.of_ok h1
        obtain ⟨cs, h2, h3⟩ : ∃ cs, cutN l o n = some cs ∧ cellBytes cs = some bs := by
          cases hc : cutN l o n with
          | none => rw [hc] at h1; cases h1
          | some cs => rw [hc] at h1; exact ⟨cs, rfl, h1⟩
        have fin : ∀ (L : Loc) (c : Nat), φ b = some L → ∃ v', (Conv.bytesToString (.slice (some ⟨L.blk, L.base + o, none⟩) n c)).run P w = .ok v' w ∧ VRel φ (mkStr bs) v' := by
          intro L c hL
          obtain ⟨cc, fr, k1, k2, _⟩ := hm.cellsAt hb hL
          obtain ⟨cs', r1, r2⟩ := load_many (P := P) (w := w) rfl rfl k1 k2 h2
          obtain ⟨ns, rfl, rfl⟩ := cells_ints h3 r2
          have := run_bytesToString (P := P) w ⟨L.blk, L.base + o, none⟩ n c ns (by rw [r1])
          rw [foldl_push] at this
          refine ⟨_, this, ?_⟩
          have e0 : (ByteArray.empty.data.toList ++ ns.map fun n => UInt8.ofNat n.toNat) = ns.map fun n => UInt8.ofNat n.toNat := rfl
          rw [e0]
          exact .string _
        cases ha with
        | slice _ hL _ _ =>
          obtain ⟨v', f1, f2⟩ := fin _ c hL
          exact ⟨v', by rw [run_convert_bytes_string w s d el _ _ _ Us Ue Ud]; exact f1, f2⟩
        | room hL _ _ _ =>
          obtain ⟨v', f1, f2⟩ := fin _ _ hL
          exact ⟨v', by rw [run_convert_bytes_string w s d el _ _ _ Us Ue Ud]; exact f1, f2⟩
        | full a' hL ho =>
          obtain ⟨_, hcs⟩ := cutN_some h2
          have : bs = [] := by
            rw [hcs] at h3
            simp only [List.take_zero] at h3
            cases h3; rfl
          subst this
          refine ⟨.string ByteArray.empty, ?_, .string _⟩
          rw [run_convert_bytes_string w s d el _ _ _ Us Ue Ud]
          have := run_bytesToString (P := P) w a' 0 0 [] rfl
          exact this
      · cases e3
    · cases e2
  · split at e2 <;> first | (cases e2; done) | skip
    rename_i t
    unfold pToUnsafe at e2
    split at e2 <;> first | (cases e2; done) | skip
    · cases e2
      cases ha
      refine ⟨_, ?_, .nilPtr⟩
      unfold convert
      simp [rs, rd, Conv.unsafePointer]
    · rename_i b o
      split at e2 <;> first | (cases e2; done) | skip
      rename_i l _ _ _ _ hb
      obtain ⟨z, h1, e3⟩ := Rs.bind_ok e2
      obtain ⟨h2, e4⟩ := ifb_no' e3
      obtain ⟨h3, e5⟩ := ifb_no e4
      cases e5
      have hz : z ≠ 0 := by intro hh; subst hh; simp at h2
      have ho : o < l.length := by rw [lenN_eq] at h3; simpa using h3
      have ha0 := ha
      cases ha with
      | @ptr _ L _ hL =>
        obtain ⟨c, fr, k1, k2, _⟩ := hm.cellsAt hb hL
        obtain ⟨v', k3, _⟩ := k2 o _ (List.getElem?_eq_getElem ho)
        have hlt : L.base + o < c.size := (Array.getElem?_eq_some_iff.1 k3).1
        refine ⟨_, ?_, ha0⟩
        unfold convert
        have hsh := shape_of k1
        clear e e1 e2 e3 e4
        simp [rs, rd, Conv.unsafePointer, Conv.seenAt, viewAt, hsh, cellsIn, szT_run h1 w, hz, hlt]
        exact fun hh => absurd hh (by omega)
  · rename_i t
    split at e2 <;> first | (cases e2; done) | skip
    unfold pFromUnsafe at e2
    split at e2 <;> first | (cases e2; done) | skip
    · cases e2
      cases ha
      refine ⟨_, ?_, .nilPtr⟩
      unfold convert
      simp [rs, rd, Conv.unsafePointer]
    · rename_i b o
      split at e2 <;> first | (cases e2; done) | skip
      rename_i l ty _ _ hb
      obtain ⟨z, hz, e3⟩ := Rs.bind_ok e2
      obtain ⟨h1, e4⟩ := ifb_no e3
      cases e4
      have ha0 := ha
      cases ha with
      | @ptr _ L _ hL =>
        obtain ⟨c, fr, k1, k2, _, k4, _⟩ := hm.cellsAt hb hL
        obtain ⟨k5, k6⟩ := k4 rfl
        have hsh := shape_of k1
        rw [lenN_eq, ← k6] at h1
        refine ⟨_, ?_, ha0⟩
        unfold convert
        have hv : (variablesAt ⟨L.blk, L.base + o, none⟩ t 1).run P w = .ok true w := by
          unfold variablesAt
          simp [hsh, k5, h1]
        simp [rs, rd, Conv.unsafePointer, Conv.seenAt, viewAt, hsh, szT_run hz w, hv]
  · cases e2

theorem pFunc_ok {fn : Fn} {f c : Array Operand} {ρ : Operand → Rs Value} {ρ' : Operand → Value} (hρ : ∀ x v, ρ x = .ok v → VRel φ v (ρ' x)) {v : Value} (hf : ∀ l, fn ≠ .yield l) (e : pFunc fn f c ρ = .ok v) :
    VRel φ v (.func fn (f.map ρ') (c.map ρ')) := by
  obtain ⟨xs, h1, e1⟩ := Rs.bind_ok e
  obtain ⟨ys, h2, e2⟩ := Rs.bind_ok e1
  cases e2
  have l1 := mapR_ok hρ h1
  have l2 := mapR_ok hρ h2
  have a1 : LRel φ (⟨xs⟩ : Array Value).toList (f.map ρ').toList := by simpa using l1
  have a2 : LRel φ (⟨ys⟩ : Array Value).toList (c.map ρ').toList := by simpa using l2
  refine .func ?_ a1.arr.1 a2.arr.1 a1.arr.2 a2.arr.2
  cases fn with
  | func f => exact .func f
  | method n => exact .method n
  | methodOf t n => exact .methodOf t n
  | via t p f b => exact .via t p f b
  | yield l => exact absurd rfl (hf l)

theorem pNilCheck_ok {o : Oper} {x : Operand} {ρ' : Operand → Value} {a v : Value} (ho : o.op = .nilCheck x) (e : pNilCheck a = .ok v) (ha : VRel φ a (ρ' x)) : ∃ v', (execOp ρ' o).run P w = .ok (.value v') w ∧ VRel φ v v' := by
  unfold execOp
  rw [ho]
  simp only
  generalize ρ' x = y at ha
  unfold pNilCheck at e
  split at e <;> first | (cases e; done) | skip
  · cases e
    cases ha with
    | ptr o hL => exact ⟨_, rfl, .ptr o hL⟩
  · cases e
    have ha0 := ha
    cases ha with
    | func hf h1 h2 h3 h4 => cases hf; exact ⟨_, rfl, ha0⟩
  · cases e
    have ha0 := ha
    cases ha with
    | func hf h1 h2 h3 h4 => cases hf; exact ⟨_, rfl, ha0⟩

theorem pArray_ok {t : TypeId} {a a' v : Value} (e : pArray P t a = .ok v) (ha : VRel φ a a') : ∃ v', (Instr.arrayAt t a').run P w = .ok v' w ∧ VRel φ v v' := by
  unfold pArray at e
  obtain ⟨u, hu, e1⟩ := Rs.bind_ok e
  have hr := undT_run hu w
  split at e1 <;> first | (cases e1; done) | skip
  rename_i n el p l c
  obtain ⟨h1, e2⟩ := ifb_no e1
  cases e2
  simp only [Bool.and_eq_true] at h1
  have hn : n ≤ l := by simpa using h1.2
  have hl : 0 < l := by simpa using h1.1
  unfold Instr.arrayAt
  cases ha with
  | nilSlice => omega
  | slice o hL _ _ => exact ⟨_, by simp [hr, Nat.not_lt.2 hn], .ptr _ hL⟩
  | room hL _ _ _ => exact ⟨_, by simp [hr, Nat.not_lt.2 hn], .ptr _ hL⟩
  | full a' hL ho => omega

theorem pMin_ok {a b a' b' v : Value} (e : pMin a b = .ok v) (ha : VRel φ a a') (hb : VRel φ b b') : (Builtin.min2 a' b').run P w = .ok v w ∧ VRel φ v v := by
  unfold pMin at e
  split at e <;> first | (cases e; done) | skip
  cases e; cases ha; cases hb
  exact ⟨rfl, .int _ _⟩
theorem pMax_ok {a b a' b' v : Value} (e : pMax a b = .ok v) (ha : VRel φ a a') (hb : VRel φ b b') : (Builtin.max2 a' b').run P w = .ok v w ∧ VRel φ v v := by
  unfold pMax at e
  split at e <;> first | (cases e; done) | skip
  cases e; cases ha; cases hb
  exact ⟨rfl, .int _ _⟩
end
end Go.Proofs.YtbakhdgiimjnkaaGreatDoor.Abs
