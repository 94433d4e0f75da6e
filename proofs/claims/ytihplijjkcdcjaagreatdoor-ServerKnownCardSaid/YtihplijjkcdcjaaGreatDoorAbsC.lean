/-
  The evaluator and what is proved of it (several texts in one).
-/
import Derived.Test.YtihplijjkcdcjaaGreatDoorAbsB
set_option linter.unusedVariables false
set_option linter.unusedSimpArgs false
/-
  Operations that make one new block: what the evaluator says is what the model does.
-/
namespace Go.Proofs.YtihplijjkcdcjaaGreatDoor.Abs

/-- A NEW BLOCK under a name that is not in use. -/
theorem Post.newAt {φ : Phi} {st : St} {w : World} (k : SRel φ st w) (x : AObj) (o : Obj) (L : Loc) (n next d : Nat) (hn : φ n = none) (h0 : st.next ≤ n) (h1 : n < next) (h2 : st.next ≤ next) (hL : L.blk = w.heap.size) (hx : ∀ ψ : Phi, φ.le ψ → ORel ψ L x o) :
    Post φ st w (φ.add n L) ⟨st.heap.set n x, next⟩ { w with heap := w.heap.push o, drawn := d } := by
  have hle : φ.le (φ.add n L) := Phi.add_le hn
  have old : ∀ i, i < w.heap.size → (w.heap.push o)[i]? = w.heap[i]? := fun i hi => by rw [Array.getElem?_push, if_neg (by omega)]
  refine ⟨⟨⟨?_, ?_⟩, ?_, ?_⟩, hle, ⟨by simp, rfl, rfl, rfl, ?_⟩, h2, fun b hb => by simp only [Phi.add]; rw [if_neg (by omega)]⟩
  · intro b c y z M N hb hc hM hN hMN hcon
    rcases Tr.get_set hb with ⟨rfl, _⟩ | ⟨n1, g1⟩ <;> rcases Tr.get_set hc with ⟨rfl, _⟩ | ⟨n2, g2⟩
    · rfl
    · rw [Phi.add_same] at hM
      obtain rfl := Option.some.inj hM
      simp only [Phi.add, if_neg n2] at hN
      have := k.mem.lt g2 hN
      omega
    · rw [Phi.add_same] at hN
      obtain rfl := Option.some.inj hN
      simp only [Phi.add, if_neg n1] at hM
      have := k.mem.lt g1 hM
      omega
    · simp only [Phi.add, if_neg n1] at hM
      simp only [Phi.add, if_neg n2] at hN
      exact k.mem.inj b c y z M N g1 g2 hM hN hMN hcon
  · intro b y hb
    rcases Tr.get_set hb with ⟨rfl, rfl⟩ | ⟨n1, g1⟩
    · exact ⟨L, Phi.add_same _ _ _, o, by rw [hL]; simp, hx _ hle⟩
    · obtain ⟨M, h1, o', h2, h3⟩ := k.mem.obj b y g1
      exact ⟨M, hle _ _ h1, o', by
        show (w.heap.push o)[M.blk]? = some o'
        rw [old _ (k.mem.lt g1 h1)]; exact h2, h3.mono hle⟩
  · intro b hb
    have hb' : next ≤ b := hb
    simp only [Phi.add]
    rw [if_neg (by omega)]
    exact k.fresh b (by omega)
  · intro g hg
    exact hle _ _ (k.globals g hg)
  · intro i hi hn
    refine ⟨old i hi, fun b y M hb hM hk => ?_⟩
    rcases Tr.get_set hb with ⟨rfl, _⟩ | ⟨n1, g1⟩
    · rw [Phi.add_same] at hM
      obtain rfl := Option.some.inj hM
      omega
    · simp only [Phi.add, if_neg n1] at hM
      exact FrF.own hn b y M g1 hM hk

section
variable {P : Program} {φ : Phi} {w : World}

/-- what an operation that makes a block does -/
def Makes (P : Program) (φ : Phi) (w : World) (s : Sem Value) (x : AObj) (f : Nat → Value) : Prop :=
  ∃ o L v' d, s.run P w = .ok v' { w with heap := w.heap.push o, drawn := d } ∧ L.blk = w.heap.size ∧ (∀ ψ : Phi, φ.le ψ → ORel ψ L x o) ∧ ∀ (ψ : Phi) (n : Nat), φ.le ψ → ψ n = some L → VRel ψ (f n) v'

theorem frozen_zero (L : Loc) (n : Nat) : FrozenAt L n (0, 0) (0, 0) := ⟨fun i _ _ h => absurd h (by simp), fun _ h => absurd h (by simp), Nat.le_refl _, fun _ => .inl rfl⟩
theorem closed_rel {l : List Value} {c : Array Value} (h : LRel φ l c.toList) (e : TypeId) (b : Nat) : ∀ ψ : Phi, φ.le ψ → ORel ψ ⟨b, 0, 0, 0⟩ (.cells l e 0 false (0, 0)) (.cells c e (0, 0)) :=
  fun ψ hle => .closed rfl (by have := h.1; simpa using this.symm) (fun i v hv => by
    obtain ⟨v', a, r⟩ := h.get hv
    exact ⟨v', by simpa using a, r.mono hle⟩) (frozen_zero _ _)
theorem makes_ptr {l : List Value} {c : Array Value} {e : TypeId} {s : Sem Value} (h : LRel φ l c.toList) (hs : s.run P w = .ok (.pointer (some ⟨w.heap.size, 0, none⟩)) { w with heap := w.heap.push (.cells c e) }) : Makes P φ w s (.cells l e 0 false (0, 0)) ptrTo :=
  ⟨.cells c e, ⟨w.heap.size, 0, 0, 0⟩, _, w.drawn, hs, rfl, closed_rel h e _, fun ψ n _ hn => .ptr 0 hn⟩
theorem flat_list {z : Value} (hz : Flat z) : cellsOf z = z.cells.toList := by cases hz <;> rfl
theorem flat_mem {z : Value} (hz : Flat z) : ∀ v ∈ cellsOf z, VRel φ v v := by
  intro v hv
  cases hz with
  | agg h => 
    obtain ⟨i, hi⟩ := List.mem_iff_getElem?.1 hv
    exact (h i v (by simpa [cellsOf] using hi)).rel φ
  | tuple h => 
    obtain rfl : v = _ := by simpa [cellsOf] using hv
    exact (Flat.tuple h).rel φ
  | bool => obtain rfl : v = _ := by simpa [cellsOf] using hv
            exact .bool _
  | int => obtain rfl : v = _ := by simpa [cellsOf] using hv
           exact .int _ _
  | float => obtain rfl : v = _ := by simpa [cellsOf] using hv
             exact .float _ _
  | complex => obtain rfl : v = _ := by simpa [cellsOf] using hv
               exact .complex _ _ _
  | string => obtain rfl : v = _ := by simpa [cellsOf] using hv
              exact .string _
  | nilPtr => obtain rfl : v = _ := by simpa [cellsOf] using hv
              exact .nilPtr
  | nilSlice => obtain rfl : v = _ := by simpa [cellsOf] using hv
                exact .nilSlice
  | nilMap => obtain rfl : v = _ := by simpa [cellsOf] using hv
              exact .nilMap
  | nilFunc => obtain rfl : v = _ := by simpa [cellsOf] using hv
               exact .nilFunc
  | nilIface => obtain rfl : v = _ := by simpa [cellsOf] using hv
                exact .nilIface
/-- zero cells, as often as is asked for -/
theorem reps_zero {z : Value} (hz : Flat z) {s n : Nat} (hs : (cellsOf z).length = s) :
    ((Array.range (n * s)).map (z.cells[· % z.cells.size]!)).toList = reps (cellsOf z) n := by
  have hc := flat_list hz
  have hsz : z.cells.size = s := by rw [← hs, hc]; simp
  apply List.ext_getElem?
  intro i
  by_cases hi : i < n * s
  · have hs0 : 0 < s := by
      rcases Nat.eq_zero_or_pos s with h | h
      · subst h; simp at hi
      · exact h
    rw [reps_get _ _ _ (by rw [hs]; exact hi), hs]
    have hm : i % s < z.cells.size := by rw [hsz]; exact Nat.mod_lt _ hs0
    simp only [Array.toList_map, Array.toList_range, List.getElem?_map, List.getElem?_range hi, Option.map_some, hsz]
    rw [hc, getElem!_pos z.cells _ hm]
    simp [hm]
  · rw [List.getElem?_eq_none (by simp; omega), List.getElem?_eq_none (by rw [reps_length, hs]; omega)]
theorem reps_rel {z : Value} (hz : Flat z) (n : Nat) : LRel φ (reps (cellsOf z) n) (reps (cellsOf z) n) := by
  refine ⟨rfl, fun i v v' a b => ?_⟩
  rw [a] at b
  cases b
  have hi : i < n * (cellsOf z).length := by
    rw [← reps_length]
    rcases Nat.lt_or_ge i (reps (cellsOf z) n).length with h | h
    · exact h
    · rw [List.getElem?_eq_none h] at a; cases a
  rw [reps_get _ _ _ hi] at a
  exact flat_mem hz v (List.mem_of_getElem? a)

theorem aSliceLit_ok {e : TypeId} {len : Nat} {ps qs : List (Nat × Value)} {x : AObj} {f : Nat → Value} {t : TypeId} (hu : P.underlying t = some (.slice e)) (h : aSliceLit P e len ps = .ok (x, f)) (hp : PRel φ ps qs) :
    Makes P φ w (Instr.buildSlice t len ⟨qs⟩) x f := by
  unfold aSliceLit at h
  obtain ⟨s, h1, e1⟩ := Rs.bind_ok h
  obtain ⟨h2, e2⟩ := ifb_no e1
  obtain ⟨z, h3, e3⟩ := Rs.bind_ok e2
  obtain ⟨h4, e4⟩ := ifb_no e3
  obtain ⟨cs, h5, e5⟩ := Rs.bind_ok e4
  cases e5
  obtain ⟨z1, z2⟩ := zeroT_ok h3
  have hs : (cellsOf z).length = s := by rw [← lenN_eq]; exact Nat.eq_of_beq_eq_true h4
  simp only [Bool.and_eq_true] at h2
  have hle : ¬ len * s > 2 ^ 24 := by
    have : len * s ≤ 16777216 := by simpa using h2.1
    omega
  have hlen : len ≤ 16777216 := by simpa using h2.2
  have key : ∀ zero : Array Value, ((Array.range (len * s)).map (zero[· % zero.size]!)).toList = reps (cellsOf z) len → ∃ rs, Instr.fill (fun i => some (i * s, s)) ((Array.range (len * s)).map (zero[· % zero.size]!)) qs = some rs ∧ LRel φ cs rs.toList := by
    intro zero hzero
    obtain ⟨rs, f1, f2, _⟩ := fill_ok (φ := φ) h5 hp (ds := (Array.range (len * s)).map (zero[· % zero.size]!)) (by rw [hzero]; exact reps_rel z2 len)
    exact ⟨rs, f1, f2⟩
  have fin : ∃ rs, (Instr.buildSlice t len ⟨qs⟩).run P w = .ok (.slice (some ⟨w.heap.size, 0, none⟩) len len) { w with heap := w.heap.push (.cells rs e) } ∧ LRel φ cs rs.toList := by
    unfold Instr.buildSlice
    by_cases h0 : len * s = 0
    · have hb : reps (cellsOf z) len = [] := List.eq_nil_of_length_eq_zero (by rw [reps_length, hs, h0])
      obtain ⟨rs, f1, f2⟩ := key #[] (by rw [hb, h0]; simp)
      refine ⟨rs, ?_, f2⟩
      simp [run_underlying hu, szT_run h1 w, hle, h0]
      rw [h0] at f1
      simp at f1
      simp [f1, newRow]
    · obtain ⟨rs, f1, f2⟩ := key z.cells (reps_zero z2 hs)
      refine ⟨rs, ?_, f2⟩
      simp [run_underlying hu, szT_run h1 w, hle, h0, z1, f1, newRow]
  obtain ⟨rs, f1, f2⟩ := fin
  exact ⟨.cells rs e, ⟨w.heap.size, 0, 0, 0⟩, _, w.drawn, f1, rfl, closed_rel f2 e _, fun ψ n _ hn => .slice 0 hn (by unfold open_; omega) (Nat.le_refl _)⟩

theorem aMakeSlice_ok {e t : TypeId} {l c : Nat} {k k' : IntKind} {x : AObj} {f : Nat → Value} (hu : P.underlying t = some (.slice e)) (h : aMakeSlice P e l c = .ok (x, f)) :
    Makes P φ w (Instr.makeSlice t (.int k (Int.ofNat l)) (.int k' (Int.ofNat c))) x f := by
  unfold aMakeSlice at h
  obtain ⟨s, h1, e1⟩ := Rs.bind_ok h
  obtain ⟨b, h2, e2⟩ := Rs.bind_ok e1
  obtain ⟨z, h3, e3⟩ := Rs.bind_ok e2
  obtain ⟨h4, e4⟩ := ifb_no e3
  obtain ⟨h5, e5⟩ := ifb_no e4
  obtain ⟨h6, e6⟩ := ifb_no e5
  obtain ⟨h7, e7⟩ := ifb_no e6
  rw [natK_eq, natK_eq] at e7
  cases e7
  obtain ⟨z1, z2⟩ := zeroT_ok h3
  have hs : (cellsOf z).length = s := by rw [← lenN_eq]; exact Nat.eq_of_beq_eq_true h7
  have hlc : l ≤ c := by simpa using h4
  have hc : c ≤ 1073741824 := by simpa using h5
  have hcb : c * b ≤ 1073741824 := by simpa using h6
  obtain ⟨i, hi, hb⟩ := bytesT_run h2 w
  have wl : IntKind.i64.wrap (Int.ofNat l) = Int.ofNat l := wrap_small _ _ (by unfold kLim; simp only; omega)
  have wc : IntKind.i64.wrap (Int.ofNat c) = Int.ofNat c := wrap_small _ _ (by unfold kLim; simp only; omega)
  have hbc : ¬ ((b : Int) * Int.ofNat c > 2 ^ 48) := by
    have : (b : Int) * Int.ofNat c = ((c * b : Nat) : Int) := by push_cast; rw [Int.mul_comm]; rfl
    rw [this]; omega
  have n0 : ∀ m : Nat, ¬ (Int.ofNat m < 0) := fun m => by simp
  have n1 : ¬ (Int.ofNat l > Int.ofNat c) := by simp; omega
  refine ⟨.cells (⟨reps (cellsOf z) c⟩) e, ⟨w.heap.size, 0, 0, 0⟩, .slice (some ⟨w.heap.size, 0, none⟩) l c, w.drawn, ?_, rfl, closed_rel (reps_rel z2 c) e _, fun ψ n _ hn => .slice 0 hn (by unfold open_; omega) hlc⟩
  unfold Instr.makeSlice
  have hrep : (Array.range (c * s)).map (z.cells[· % z.cells.size]!) = ⟨reps (cellsOf z) c⟩ := Array.ext' (reps_zero z2 hs)
  simp only [Sem.run_bind, run_underlying hu, Result.andThen_ok, asInt, asIntOf, Sem.run_pure, hi, hb, wl, wc]
  simp only [n0, n1, hbc, decide_false, Bool.or_false, Bool.false_eq_true, if_false, run_askRoom, Result.andThen_ok, Sem.run_bind, szT_run h1 w]
  by_cases h0 : c * s = 0
  · have hb0 : reps (cellsOf z) c = [] := List.eq_nil_of_length_eq_zero (by rw [reps_length, hs, h0])
    have q : (Array.map (fun (x : Nat) => (default : Value)) (Array.range 0)) = ⟨[]⟩ := Array.ext' (by simp)
    simp [h0, newRow, hb0, q]
  · simp [h0, z1, newRow, hrep]

theorem aBytes_ok {s d : TypeId} {us ud : TypeDesc} {a a' : Value} {x : AObj} {f : Nat → Value} (hs : P.underlying s = some us) (hd : P.underlying d = some ud) (h : aBytes P us ud a = .ok (x, f)) (ha : VRel φ a a') : Makes P φ w (convert s d a') x f := by
  unfold aBytes at h
  split at h <;> first | (cases h; done) | skip
  rename_i e str
  obtain ⟨ue, h1, e1⟩ := Rs.bind_ok h
  split at e1 <;> first | (cases e1; done) | skip
  cases e1
  cases ha
  have he := undT_ok h1
  have hsz : str.data.toList.length = str.size := Array.length_toList (xs := str.data)
  let cap := (Question.appendCap str.size 0 e).cut (w.tape w.drawn (.appendCap str.size 0 e))
  have hcap : str.size ≤ cap := Nat.le_add_right _ _
  let c : Array Value := (str.data.map fun (b : UInt8) => Value.int .u8 b.toNat) ++ Array.replicate (cap - str.size) (Value.int .u8 0)
  have hc : c.size = cap := by
    show ((str.data.map fun (b : UInt8) => Value.int .u8 b.toNat) ++ Array.replicate (cap - str.size) (Value.int .u8 0)).size = cap
    rw [Array.size_append, Array.size_map, Array.size_replicate]
    show str.size + (cap - str.size) = cap
    omega
  refine ⟨.cells c e (cap, cap + 1), ⟨w.heap.size, 0, 1, cap⟩, .slice (some ⟨w.heap.size, 0, none⟩) str.size cap, w.drawn + 1, ?_, rfl, fun ψ hle => ?_, fun ψ n _ hn => ?_⟩
  · unfold convert
    simp only [Sem.run_bind, run_underlying hs, run_underlying hd, Result.andThen_ok, run_underlying he]
    unfold Conv.stringToBytes
    rw [Sem.run_bind, run_choose]
    have hnf : (Question.appendCap str.size 0 e).forced = false := rfl
    rw [hnf]
    simp only [Bool.false_eq_true, if_false, Result.andThen_ok]
    show ((do let a ← newRow e c; markStringish a; pure (.slice (some a) str.size cap) : Sem Value)).run P { w with drawn := w.drawn + 1 } = _
    unfold newRow markStringish
    simp only [Sem.run_bind, run_newObj, Result.andThen_ok, Sem.run_pure, run_shape]
    have hsh : ({ w with drawn := w.drawn + 1, heap := w.heap.push (.cells c e) } : World).shape? w.heap.size = some (e, c.size) := by
      simp [World.shape?]
    rw [hsh]
    simp only [run_freeze, Result.andThen_ok, Sem.run_pure]
    congr 1
    unfold World.freeze
    rw [if_neg (by decide)]
    congr 1
    apply Array.ext_getElem?
    intro i
    rw [Array.getElem?_modify]
    by_cases h0 : i = w.heap.size
    · subst h0
      simp [hc]
    · rw [if_neg (fun h => h0 h.symm)]
      rw [Array.getElem?_push, Array.getElem?_push, if_neg h0, if_neg h0]
  · refine .room (L := ⟨w.heap.size, 0, 1, cap⟩) (by simp) (by simp [hc]) ?_ ?_ ?_ ?_
    · simp only [Nat.mul_one]
      rw [byteCells_eq, List.length_map, hsz]; exact hcap
    · intro i v hv
      rw [byteCells_eq, List.getElem?_map] at hv
      cases hb : str.data.toList[i]? with
      | none => rw [hb] at hv; cases hv
      | some b =>
        rw [hb] at hv
        obtain rfl : Value.int .u8 (Int.ofNat b.toNat) = v := by simpa using hv
        refine ⟨.int .u8 (Int.ofNat b.toNat), ?_, .int _ _⟩
        have hi : i < str.data.size := by
          rcases Nat.lt_or_ge i str.data.size with h | h
          · exact h
          · rw [List.getElem?_eq_none (by simpa using h)] at hb; cases hb
        show c[0 + i]? = _
        rw [Nat.zero_add, Array.getElem?_append_left (by simpa using hi), Array.getElem?_map]
        have : str.data[i]? = some b := by simpa using hb
        rw [this]; rfl
    · refine ⟨fun i hi h1 _ => ?_, fun h => absurd h (by simp), Nat.le_succ _, fun _ => .inr (by simp)⟩
      simp only [Nat.mul_one] at hi
      simp only at h1
      omega
    · intro i hi
      simp only [Nat.mul_one] at hi
      exact ⟨_, Array.getElem?_eq_getElem (by simp only; omega)⟩
  · rw [lenN_eq, hsz]
    have := VRel.room (φ := ψ) (b := n) (n := str.size) (c := cap) (j := 0) (L := ⟨w.heap.size, 0, 1, cap⟩) hn (by simp) (by simp) hcap
    simpa using this
end
end Go.Proofs.YtihplijjkcdcjaaGreatDoor.Abs

/-
  All operations that make one new block.
-/
namespace Go.Proofs.YtihplijjkcdcjaaGreatDoor.Abs
section
variable {P : Program} {φ : Phi} {w : World}

theorem Makes.ptr {z z' : Value} {e : TypeId} (hz : VRel φ z z') (s : Sem Value) (hs : s.run P w = (do pure (.pointer (some (← newVar e z'))) : Sem Value).run P w) : Makes P φ w s (.cells (cellsOf z) e 0 false (0, 0)) ptrTo :=
  makes_ptr (c := z'.cells) hz.cells (by rw [hs]; simp [newVar, newRow])

/-- ALL OPERATIONS THAT MAKE ONE NEW BLOCK. -/
theorem aOp_ok {o : Oper} {ρ : Operand → Rs Value} {ρ' : Operand → Value} (hρ : ∀ x v, ρ x = .ok v → VRel φ v (ρ' x)) {x : AObj} {f : Nat → Value} (e : aOp P o.op ρ = .ok (x, f)) :
    ∃ b L v' d, (execOp ρ' o).run P w = .ok (.value v') { w with heap := w.heap.push b, drawn := d } ∧ L.blk = w.heap.size ∧ (∀ ψ : Phi, φ.le ψ → ORel ψ L x b) ∧ ∀ (ψ : Phi) (n : Nat), φ.le ψ → ψ n = some L → VRel ψ (f n) v' := by
  obtain ⟨dst, op, type, pos, after, guard⟩ := o
  have fin : ∀ {s : Sem Value}, Makes P φ w s x f → ∃ b L v' d, (do pure (Next.value (← s)) : Sem Next).run P w = .ok (.value v') { w with heap := w.heap.push b, drawn := d } ∧ L.blk = w.heap.size ∧ (∀ ψ : Phi, φ.le ψ → ORel ψ L x b) ∧ ∀ (ψ : Phi) (n : Nat), φ.le ψ → ψ n = some L → VRel ψ (f n) v' := by
    intro s hs
    obtain ⟨b, L, v', d, h1, h2, h3, h4⟩ := hs
    exact ⟨b, L, v', d, run_v h1, h2, h3, h4⟩
  cases op <;> simp only [aOp] at e <;> first | (cases e; done) | skip
  case alloc t =>
    obtain ⟨z, h1, e1⟩ := Rs.bind_ok e
    cases e1
    obtain ⟨z1, z2⟩ := zeroT_ok h1
    refine fin (Makes.ptr (z2.rel φ) _ ?_)
    unfold Instr.alloc
    simp [z1]
  case box t y =>
    obtain ⟨a, h1, e1⟩ := Rs.bind_ok e
    cases e1
    exact fin (Makes.ptr (hρ _ _ h1) _ rfl)
  case buildSlice t len parts =>
    obtain ⟨ps, h1, e1⟩ := Rs.bind_ok e
    obtain ⟨u, h2, e2⟩ := Rs.bind_ok e1
    split at e2 <;> first | (cases e2; done) | skip
    have hp := pairs_ok hρ h1
    have := aSliceLit_ok (w := w) (undT_ok h2) e2 hp
    have hq : (parts.map fun (i, x) => (i, ρ' x)) = ⟨parts.toList.map fun p => (p.1, ρ' p.2)⟩ := by
      apply Array.ext'
      simp
    refine fin ?_
    rw [hq]
    exact this
  case makeMap t r =>
    have key : (Instr.makeMap t (r.map ρ')).run P w = .ok (.map (some w.heap.size)) { w with heap := w.heap.push (.map #[] 0) } ∧ x = .map [] 0 ∧ f = fun n => .map (some n) := by
      unfold aMakeMap at e
      cases r with
      | none =>
        cases e
        exact ⟨rfl, rfl, rfl⟩
      | some y =>
        simp only at e
        obtain ⟨a, h1, e1⟩ := Rs.bind_ok e
        split at e1 <;> first | (cases e1; done) | skip
        obtain ⟨u, h2, e2⟩ := Rs.bind_ok e1
        split at e2 <;> first | (cases e2; done) | skip
        cases e2
        have hv := hρ _ _ h1
        refine ⟨?_, rfl, rfl⟩
        unfold Instr.makeMap
        simp only [Option.map_some]
        generalize ρ' y = z at hv
        cases hv
        simp [run_underlying (undT_ok h2), asInt, asIntOf]
    obtain ⟨k1, rfl, rfl⟩ := key
    exact fin ⟨.map #[] 0, ⟨w.heap.size, 0, 0, 0⟩, _, w.drawn, k1, rfl, fun ψ _ => .map rfl (fun i e f a => by simp at a), fun ψ n _ hn => .map hn⟩
  case makeSlice t l c =>
    obtain ⟨a, h1, e1⟩ := Rs.bind_ok e
    obtain ⟨b, h2, e2⟩ := Rs.bind_ok e1
    obtain ⟨u, h3, e3⟩ := Rs.bind_ok e2
    split at e3 <;> first | (cases e3; done) | skip
    have hl := hρ _ _ h1
    have hc := hρ _ _ h2
    refine fin ?_
    generalize ρ' l = y at hl
    generalize ρ' c = z at hc
    cases hl
    cases hc
    exact aMakeSlice_ok (undT_ok h3) e3
  case convert s d y =>
    obtain ⟨a, h1, e1⟩ := Rs.bind_ok e
    obtain ⟨us, h2, e2⟩ := Rs.bind_ok e1
    obtain ⟨ud, h3, e3⟩ := Rs.bind_ok e2
    exact fin (aBytes_ok (undT_ok h2) (undT_ok h3) e3 (hρ _ _ h1))
end
end Go.Proofs.YtihplijjkcdcjaaGreatDoor.Abs

/-
  Operations that turn cells.
-/
namespace Go.Proofs.YtihplijjkcdcjaaGreatDoor.Abs
section
variable {P : Program} {φ : Phi}

theorem VRel.one {v v' : Value} (h : VRel φ v v') (k : oneB v = true) : v'.oneCell' = true := by cases h <;> first | rfl | cases k

theorem modify_eq (w : World) (b : Nat) (c c' : Array Value) (e : TypeId) (fr : Nat × Nat) (f : Obj → Obj) (h : w.heap[b]? = some (.cells c e fr)) (hf : f (.cells c e fr) = .cells c' e fr) : w.heap.modify b f = w.heap.setIfInBounds b (.cells c' e fr) := by
  apply Array.ext_getElem?
  intro i
  rw [Array.getElem?_modify, Array.getElem?_setIfInBounds]
  have hb : b < w.heap.size := (Array.getElem?_eq_some_iff.1 h).1
  by_cases hi : b = i
  · subst hi
    rw [if_pos rfl, if_pos rfl, if_pos hb, h]
    simp only [Option.map_some, hf]
  · rw [if_neg hi, if_neg hi]
/-- values go into cells, one by one -/
theorem run_store_list (b o : Nat) (e : TypeId) (fr : Nat × Nat) : ∀ (vs : List Value) (i : Nat) (w : World) (c : Array Value), w.heap[b]? = some (.cells c e fr) → (∀ v ∈ vs, v.oneCell' = true) → o + i + vs.length ≤ c.size →
    (∀ j, i ≤ j → j < i + vs.length → ¬ (fr.1 ≤ o + j ∧ o + j < fr.2)) →
    ∃ c' : Array Value, (storeCells ⟨b, o, none⟩ vs i).run P w = .ok () { w with heap := w.heap.setIfInBounds b (.cells c' e fr) } ∧ c'.toList = c.toList.take (o + i) ++ (vs ++ c.toList.drop (o + i + vs.length))
  | [], i, w, c, hw, _, _, _ => by
    refine ⟨c, ?_, by simp⟩
    have : w.heap.setIfInBounds b (.cells c e fr) = w.heap := by
      apply Array.ext_getElem?
      intro j
      rw [Array.getElem?_setIfInBounds]
      by_cases hj : b = j
      · subst hj
        rw [if_pos rfl, if_pos (Array.getElem?_eq_some_iff.1 hw).1, hw]
      · rw [if_neg hj]
    rw [this]
    rfl
  | v :: vs, i, w, c, hw, hv, hl, hf => by
    simp only [List.length_cons] at hl hf
    have hb : b < w.heap.size := (Array.getElem?_eq_some_iff.1 hw).1
    have hc : o + i < c.size := by omega
    have hcell : w.cell? ⟨b, o + i, none⟩ = some c[o + i] := by rw [cell_of hw, Array.getElem?_eq_getElem hc]
    have hfr : w.frozen? ⟨b, o + i, none⟩ = false := by
      rw [frozen_of hw]
      have := hf i (Nat.le_refl _) (by omega)
      simp only [Bool.and_eq_false_iff, decide_eq_false_iff_not]
      omega
    have hset : w.setCell ⟨b, o + i, none⟩ v = { w with heap := w.heap.setIfInBounds b (.cells (c.setIfInBounds (o + i) v) e fr) } := by
      unfold World.setCell
      congr 1
      exact modify_eq w b c _ e fr _ hw rfl
    obtain ⟨c', h1, h2⟩ := run_store_list b o e fr vs (i + 1) { w with heap := w.heap.setIfInBounds b (.cells (c.setIfInBounds (o + i) v) e fr) } (c.setIfInBounds (o + i) v) (by simp [hb]) (fun u hu => hv u (by simp [hu])) (by simp; omega)
      (fun j hj1 hj2 => hf j (by omega) (by omega))
    refine ⟨c', ?_, ?_⟩
    · unfold storeCells
      have := run_store P w ⟨b, o + i, none⟩ v .plain (hv v (by simp))
      rw [hcell, hfr] at this
      simp only [Bool.false_eq_true, if_false] at this
      rw [Sem.run_bind, add_none, this, hset]
      simp only [Result.andThen_ok]
      rw [h1]
      congr 2
      apply Array.ext_getElem?
      intro j
      simp only [Array.getElem?_setIfInBounds]
      by_cases hj : b = j
      · subst hj; simp [hb]
      · simp [hj]
    · rw [h2]
      have hset : (c.setIfInBounds (o + i) v).toList = c.toList.take (o + i) ++ v :: c.toList.drop (o + i + 1) := by
        rw [Array.toList_setIfInBounds, List.set_eq_take_append_cons_drop, if_pos (by simpa using hc)]
      have ht : (c.toList.take (o + i)).length = o + i := by simp; omega
      rw [hset]
      generalize c.toList.take (o + i) = A at *
      have e1 : o + (i + 1) = A.length + 1 := by omega
      have e2 : A.length + 1 + vs.length = A.length + (vs.length + 1) := by omega
      rw [e1, e2, List.take_length_add_append, List.drop_length_add_append]
      simp only [List.take_succ_cons, List.take_zero, List.drop_succ_cons, List.drop_drop, List.append_assoc, List.cons_append, List.nil_append, List.length_cons]
      congr 4
      omega

/-- CELLS OF A BLOCK ARE TURNED. -/
theorem turn_ok {β : Type} {st : St} {w : World} (hS : SRel φ st w) {b o : Nat} {vs vs' : List Value} {k : St → Rs β} {r : β} {L : Loc} (hL : φ b = some L) (h : turn st b o vs k = .ok r) (hv : LRel φ vs vs') :
    ∃ st' w', (storeCells ⟨L.blk, L.base + o, none⟩ vs').run P w = .ok () w' ∧ Post φ st w φ st' w' ∧ k st' = .ok r ∧ st'.next = st.next := by
  unfold turn at h
  split at h <;> first | (cases h; done) | skip
  rename_i l e s opn fz hb
  obtain ⟨h1, h2⟩ := ifb_no h
  obtain ⟨l', h3, h4⟩ := Rs.bind_ok h2
  rw [St.put_eq] at h4
  obtain ⟨h5, rfl⟩ := over_some (Rs.of_ok h3)
  simp only [Bool.and_eq_true, Bool.or_eq_true, List.all_eq_true] at h1
  obtain ⟨hz, hone⟩ := h1
  obtain ⟨c, fr, hw, hc, hfz, hcl, hop⟩ := hS.mem.cellsAt hb hL
  have hlen : vs'.length = vs.length := hv.1.symm
  -- all these cells are there, and none is frozen
  have hsz : L.base + o + vs'.length ≤ c.size := by
    cases opn with
    | false => obtain ⟨x, y⟩ := hcl rfl; omega
    | true => obtain ⟨x, _, y, z, _⟩ := hop rfl; omega
  have hfr : ∀ j, 0 ≤ j → j < 0 + vs'.length → ¬ (fr.1 ≤ L.base + o + j ∧ L.base + o + j < fr.2) := by
    rintro j _ hj ⟨f1, f2⟩
    have := hfz.1 (o + j) (by omega) (by omega) (by omega)
    rw [lenN_eq] at hz
    rcases hz with hz | hz
    · have : fz.2 ≤ o := by simpa using hz
      omega
    · have : o + vs.length ≤ fz.1 := by simpa using hz
      omega
  have h1c : ∀ v ∈ vs', v.oneCell' = true := by
    intro v hm
    obtain ⟨i, hi⟩ := List.mem_iff_getElem?.1 hm
    have hlt : i < vs.length := by
      rcases Nat.lt_or_ge i vs'.length with x | x
      · omega
      · rw [List.getElem?_eq_none x] at hi; cases hi
    exact (hv.2 i _ v (List.getElem?_eq_getElem hlt) hi).one (hone _ (List.getElem_mem hlt))
  obtain ⟨c', r1, r2⟩ := run_store_list (P := P) L.blk (L.base + o) e fr vs' 0 w c hw h1c (by simpa using hsz) hfr
  simp only [Nat.add_zero] at r2
  have hbs : L.blk < w.heap.size := (Array.getElem?_eq_some_iff.1 hw).1
  have hc'sz : c'.size = c.size := by
    have := congrArg List.length r2
    simp at this
    omega
  have hcells : CellsAt φ L (l.take o ++ (vs ++ l.drop (o + vs.length))) c' := by
    intro i v hi
    have : c'[L.base + i]? = (c.toList.take (L.base + o) ++ (vs' ++ c.toList.drop (L.base + o + vs'.length)))[L.base + i]? := by rw [← r2]; simp
    rw [this]
    have ht : (c.toList.take (L.base + o)).length = L.base + o := by simp; omega
    have ht2 : (l.take o).length = o := by simp; omega
    by_cases c1 : i < o
    · rw [List.getElem?_append_left (by omega), List.getElem?_take, if_pos (by omega)]
      rw [List.getElem?_append_left (by omega), List.getElem?_take, if_pos c1] at hi
      obtain ⟨v', x, y⟩ := hc i v hi
      exact ⟨v', by simpa using x, y⟩
    · rw [List.getElem?_append_right (by omega), ht]
      rw [List.getElem?_append_right (by omega), ht2] at hi
      by_cases c2 : i - o < vs.length
      · rw [List.getElem?_append_left c2] at hi
        rw [List.getElem?_append_left (by omega), show L.base + i - (L.base + o) = i - o by omega]
        exact hv.get hi
      · rw [List.getElem?_append_right (by omega), List.getElem?_drop] at hi
        rw [List.getElem?_append_right (by omega), List.getElem?_drop]
        obtain ⟨v', x, y⟩ := hc i v (by rw [← hi]; congr 1; omega)
        refine ⟨v', ?_, y⟩
        have e : L.base + o + vs'.length + (L.base + i - (L.base + o) - vs'.length) = L.base + i := by omega
        rw [e]
        simpa using x
  have hl' : (l.take o ++ (vs ++ l.drop (o + vs.length))).length = l.length := by simp; omega
  refine ⟨_, _, r1, ?_, h4, rfl⟩
  refine Post.turn hS hb rfl hL ⟨by simp, rfl, rfl, rfl⟩ (fun i hi => Array.getElem?_setIfInBounds_ne (fun e => hi e.symm)) ⟨.cells c' e fr, by simp [hbs], ?_⟩
  cases opn with
  | false =>
    obtain ⟨x, y⟩ := hcl rfl
    exact .closed x (by omega) hcells (by rw [hl']; exact hfz)
  | true =>
    obtain ⟨rfl, x2, y, z, x5, x6⟩ := hop rfl
    refine .room x2 (by omega) (by omega) hcells x5 fun i hi => ?_
    obtain ⟨v, hv'⟩ := x6 i hi
    have : L.base + i < c'.size := by have := (Array.getElem?_eq_some_iff.1 hv').1; omega
    exact ⟨_, Array.getElem?_eq_getElem this⟩
end
end Go.Proofs.YtihplijjkcdcjaaGreatDoor.Abs

/-
  Stores and maps.
-/
namespace Go.Proofs.YtihplijjkcdcjaaGreatDoor.Abs
section
variable {P : Program} {φ : Phi} {st : St} {w : World} {β : Type}

/-- what is done answers what the evaluator goes on with -/
def Act (P : Program) (φ : Phi) (st : St) (w : World) (s : Sem Value) (k : Value → St → Rs β) (r : β) : Prop :=
  ∃ v st' ψ v' w', s.run P w = .ok v' w' ∧ Post φ st w ψ st' w' ∧ VRel ψ v v' ∧ k v st' = .ok r
def ActU (P : Program) (φ : Phi) (st : St) (w : World) (s : Sem Unit) (k : Value → St → Rs β) (r : β) : Prop :=
  ∃ st' ψ w', s.run P w = .ok () w' ∧ Post φ st w ψ st' w' ∧ k undefV st' = .ok r

theorem run_getObj {b : Nat} {o : Obj} (h : w.heap[b]? = some o) (n : ∀ c e fr, o ≠ .cells c e fr) : (getObj b).run P w = .ok o w := by
  cases o <;> first | exact absurd rfl (n _ _ _) | simp only [getObj, Sem.run, h]
theorem run_setObj {b : Nat} {o q : Obj} (h : w.heap[b]? = some o) (n : ∀ c e fr, o ≠ .cells c e fr) : (setObj b q).run P w = .ok () { w with heap := w.heap.setIfInBounds b q } := by
  cases o <;> first | exact absurd rfl (n _ _ _) | simp only [setObj, Sem.run, h]
/-- a block of another kind than cells turns -/
theorem Post.put {b : Nat} {x y : AObj} {L : Loc} {o q : Obj} (hS : SRel φ st w) (hx : st.heap.get b = some x) (hc : x.isConst = false) (hL : φ b = some L) (ho : w.heap[L.blk]? = some o) (hy : ORel φ L y q) :
    Post φ st w φ ⟨st.heap.set b y, st.next⟩ { w with heap := w.heap.setIfInBounds L.blk q } :=
  Post.turn hS hx hc hL ⟨by simp, rfl, rfl, rfl⟩ (fun i hi => Array.getElem?_setIfInBounds_ne (fun e => hi e.symm)) ⟨q, by simp [(Array.getElem?_eq_some_iff.1 ho).1], hy⟩

theorem eStore_ok (hS : SRel φ st w) {t : TypeId} {a x a' x' : Value} {k : Value → St → Rs β} {r : β} (h : eStore P st t a x k = .ok r) (ha : VRel φ a a') (hx : VRel φ x x') : ActU P φ st w (Instr.storeAt t a' x') k r := by
  unfold eStore at h
  split at h <;> first | (cases h; done) | skip
  obtain ⟨s, h1, h2⟩ := Rs.bind_ok h
  obtain ⟨h3, h4⟩ := ifb_no h2
  cases ha with
  | ptr o hL =>
    have hc := hx.cells
    obtain ⟨st', w', r1, r2, r3, _⟩ := turn_ok (P := P) hS hL h4 hc
    refine ⟨st', φ, w', ?_, r2, r3⟩
    have hs : x'.cells.size = s := by
      have := hc.1
      rw [lenN_eq] at h3
      have h5 := Nat.eq_of_beq_eq_true h3
      simp at this
      omega
    unfold Instr.storeAt
    simp only [Instr.sureAddr, pure_bind]
    unfold storeVar
    simp only [Sem.run_bind, szT_run h1, Result.andThen_ok, hs, ne_eq, not_true, if_false]
    exact r1

theorem sameFlat_eq {a b : Value} (h : sameFlat a b = true) : a = b ∧ Flat a := by
  unfold sameFlat at h
  split at h <;> first | (cases h; done) | skip
  · rename_i x y
    obtain rfl : x = y := by simpa using h
    exact ⟨rfl, .bool _⟩
  · rw [ifb_eq] at h
    split at h <;> first | (cases h; done) | skip
    rename_i hk
    rw [iBeq_eq] at h
    obtain rfl := kEq_eq hk
    obtain h := eq_of_beq h
    exact ⟨by rw [h], .int _ _⟩
  · rw [bEq_eq] at h
    rename_i x y
    have : x = y := by
      cases x; cases y
      congr 1
      apply Array.ext'
      simpa using h
    exact ⟨by rw [this], .string _⟩
theorem sameFlat_bits {a b : Value} (h : sameFlat a b = true) (n : Nat) : Instr.sameBits n a a = true := by
  have byt : ∀ s : ByteArray, (s == s) = true := fun s => by rw [beq_toListBytes]; simp
  cases a <;> cases b <;> first | (cases h; done) | (cases n <;> simp [Instr.sameBits, byt])
theorem sameAll_eq : ∀ {xs ys : List Value}, sameAll xs ys = true → xs = ys ∧ ∀ x ∈ xs, sameFlat x x = true
  | [], [], _ => ⟨rfl, fun _ h => by simp at h⟩
  | [], _ :: _, h => by cases h
  | _ :: _, [], h => by cases h
  | x :: xs, y :: ys, h => by
    have h' : ifb (sameFlat x y) (sameAll xs ys) false = true := h
    rw [ifb_eq] at h'
    split at h' <;> first | (cases h'; done) | skip
    rename_i hk
    obtain ⟨rfl, hf⟩ := sameFlat_eq hk
    obtain ⟨rfl, h2⟩ := sameAll_eq h'
    exact ⟨rfl, fun z hz => by
      rcases List.mem_cons.1 hz with rfl | hz
      · exact hk
      · exact h2 z hz⟩
theorem sameKey_ok {a b a' b' : Value} (h : sameKey a b = true) (ha : VRel φ a a') (hb : VRel φ b b') : a = b ∧ a' = b' ∧ Instr.sameBits 10000 b' a' = true := by
  have flat1 : ∀ {x y : Value}, sameFlat x y = true → ∀ {x' y' : Value}, VRel φ x x' → VRel φ y y' → x' = x ∧ y' = x := by
    intro x y hs x' y' hx hy
    obtain ⟨rfl, _⟩ := sameFlat_eq hs
    cases x <;> first | (cases hs; done) | skip
    all_goals (cases hx; cases hy; exact ⟨rfl, rfl⟩)
  unfold sameKey at h
  split at h
  · rename_i x y
    obtain ⟨h1, h2⟩ := sameAll_eq h
    have hxy : x = y := Array.ext' h1
    subst hxy
    refine ⟨rfl, ?_⟩
    cases ha with
    | @agg _ xs a1 a2 =>
      cases hb with
      | @agg _ ys b1 b2 =>
        have key : ∀ {zs : Array Value}, x.size = zs.size → (∀ (i : Nat) (v v' : Value), x[i]? = some v → zs[i]? = some v' → VRel φ v v') → zs = x := by
          intro zs z1 z2
          apply Array.ext z1.symm
          intro i hi1 hi2
          have hm : x[i] ∈ x.toList := by simp
          have := z2 i x[i] zs[i] (Array.getElem?_eq_getElem hi2) (Array.getElem?_eq_getElem hi1)
          exact (flat1 (h2 _ hm) this this).1
        rw [key a1 a2, key b1 b2]
        refine ⟨rfl, ?_⟩
        show (x.size == x.size && (x.toList.zip x.toList).all fun (p, q) => Instr.sameBits 9999 p q) = true
        simp only [beq_self_eq_true, Bool.true_and, List.all_eq_true]
        intro p hp
        have : p.1 = p.2 ∧ p.1 ∈ x.toList := by
          obtain ⟨i, hi⟩ := List.mem_iff_getElem?.1 hp
          rw [List.getElem?_zip_eq_some] at hi
          have := hi.1.symm.trans hi.2
          exact ⟨by simpa using this, List.mem_of_getElem? hi.1⟩
        rw [← this.1]
        exact sameFlat_bits (h2 _ this.2) _
  · obtain ⟨rfl, _⟩ := sameFlat_eq h
    obtain ⟨rfl, rfl⟩ := flat1 h ha hb
    exact ⟨rfl, rfl, sameFlat_bits h _⟩
theorem stays {a b a' b' : Value} (h : sameKey a b = true) (ha : VRel φ a a') (hb : VRel φ b b') : (Instr.keyThatStays b' a').run P w = .ok a' w := by
  unfold Instr.keyThatStays
  rw [if_pos (sameKey_ok h ha hb).2.2]
  rfl

/-- what a store into a map finds -/
theorem mapPut_ok {hh : Tr AObj} {t : TypeId} {key x : Value} {clock : Nat} : ∀ {es : List MapEntry} {q : List MapEntry × Bool} (i : Nat), mapPut P hh t key x clock es = .ok q →
    (findR P hh t key es i = .ok none ∧ q = (es ++ [⟨key, x, clock⟩], true)) ∨
    ∃ j e, findR P hh t key es i = .ok (some (i + j, e.val)) ∧ es[j]? = some e ∧ sameKey key e.key = true ∧ q = (es.set j { e with key := key, val := x }, false)
  | [], q, i, h => by
    cases h
    exact .inl ⟨rfl, rfl⟩
  | e :: es, q, i, h => by
    have h' : ((keyEq P hh t key e.key).bind fun b => ifb b (ifb (sameKey key e.key) (.ok ({ e with key := key, val := x } :: es, false)) (.no 81 "")) ((mapPut P hh t key x clock es).bind fun r => .ok (e :: r.1, r.2))) = .ok q := h
    obtain ⟨b, h1, h2⟩ := Rs.bind_ok h'
    have hf : findR P hh t key (e :: es) i = (keyEq P hh t key e.key).bind fun b => ifb b (.ok (some (i, e.val))) (findR P hh t key es (i + 1)) := rfl
    rw [hf, h1]
    cases b with
    | true =>
      obtain ⟨h3, h4⟩ := ifb_no (show ifb (sameKey key e.key) (.ok ({ e with key := key, val := x } :: es, false)) (.no 81 "") = Rs.ok q from h2)
      cases h4
      exact .inr ⟨0, e, rfl, rfl, h3, rfl⟩
    | false =>
      obtain ⟨r, h3, h4⟩ := Rs.bind_ok (show ((mapPut P hh t key x clock es).bind fun r => .ok (e :: r.1, r.2)) = Rs.ok q from h2)
      cases h4
      rcases mapPut_ok (i + 1) h3 with ⟨f1, rfl⟩ | ⟨j, e', f1, f2, f3, rfl⟩
      · exact .inl ⟨f1, rfl⟩
      · refine .inr ⟨j + 1, e', ?_, by simpa using f2, f3, rfl⟩
        show findR P hh t key es (i + 1) = _
        rw [f1, show i + 1 + j = i + (j + 1) by omega]

theorem mapAt (hS : SRel φ st w) {b : Nat} {es : List MapEntry} {clock : Nat} {L : Loc} (hb : st.heap.get b = some (.map es clock)) (hL : φ b = some L) :
    ∃ fs, w.heap[L.blk]? = some (.map fs clock) ∧ es.length = fs.size ∧ ∀ (i : Nat) (e f : MapEntry), es[i]? = some e → fs[i]? = some f → ERel φ e f := by
  obtain ⟨o, h1, h2⟩ := hS.mem.objAt hb hL
  cases h2 with
  | map k1 k2 => exact ⟨_, h1, k1, k2⟩
theorem map_push {es : List MapEntry} {fs : Array MapEntry} {L : Loc} {clock : Nat} (h1 : es.length = fs.size) (h2 : ∀ (i : Nat) (e f : MapEntry), es[i]? = some e → fs[i]? = some f → ERel φ e f) {e f : MapEntry} (he : ERel φ e f) : ORel φ L (.map (es ++ [e]) clock) (.map (fs.push f) clock) := by
  refine .map (by simp [h1]) fun i a b ha hb => ?_
  rw [Array.getElem?_push] at hb
  by_cases hi : i = fs.size
  · rw [if_pos hi] at hb
    cases hb
    rw [List.getElem?_append_right (by omega), hi, h1] at ha
    simp at ha
    subst ha
    exact he
  · rw [if_neg hi] at hb
    have : i < es.length := by
      rcases Nat.lt_or_ge i fs.size with x | x
      · omega
      · rw [Array.getElem?_eq_none x] at hb; cases hb
    rw [List.getElem?_append_left this] at ha
    exact h2 i a b ha hb
theorem map_set {es : List MapEntry} {fs : Array MapEntry} {L : Loc} {clock j : Nat} (h1 : es.length = fs.size) (h2 : ∀ (i : Nat) (e f : MapEntry), es[i]? = some e → fs[i]? = some f → ERel φ e f) {e : MapEntry} {g : MapEntry → MapEntry}
    (he : ∀ f, fs[j]? = some f → ERel φ e (g f)) : ORel φ L (.map (es.set j e) clock) (.map (fs.modify j g) clock) := by
  refine .map (by simp [h1]) fun i a b ha hb => ?_
  rw [Array.getElem?_modify] at hb
  by_cases hi : j = i
  · subst hi
    rw [if_pos rfl] at hb
    obtain ⟨f, hf, rfl⟩ := Option.map_eq_some_iff.1 hb
    have hlt : j < es.length := by have := (Array.getElem?_eq_some_iff.1 hf).1; omega
    rw [List.getElem?_set_self hlt] at ha
    cases ha
    exact he f hf
  · rw [if_neg hi] at hb
    rw [List.getElem?_set_ne hi] at ha
    exact h2 i a b ha hb

theorem eMapPut_ok (hS : SRel φ st w) {t : TypeId} {m key x m' key' x' : Value} {k : Value → St → Rs β} {r : β} (h : eMapPut P st t m key x k = .ok r) (hm : VRel φ m m') (hk : VRel φ key key') (hx : VRel φ x x') :
    ActU P φ st w (Instr.mapUpdate t m' key' x') k r := by
  unfold eMapPut at h
  obtain ⟨u, hu, h1⟩ := Rs.bind_ok h
  split at h1 <;> first | (cases h1; done) | skip
  rename_i kt el b
  unfold eMapPut2 at h1
  split at h1 <;> first | (cases h1; done) | skip
  rename_i es clock hb
  obtain ⟨h2, h3⟩ := ifb_no h1
  obtain ⟨q, h4, h5⟩ := Rs.bind_ok h3
  rw [natK_eq, St.put_eq] at h5
  cases hm with
  | @map _ L hL =>
    obtain ⟨fs, hw, k1, k2⟩ := mapAt hS hb hL
    have nc : ∀ c e fr, Obj.map fs clock ≠ .cells c e fr := fun _ _ _ e => by cases e
    have find := fun r => @findR_ok P φ st.heap w hS.mem kt key key' es fs.toList r h2 hk
    have k2' : ∀ (i : Nat) (e f : MapEntry), es[i]? = some e → fs.toList[i]? = some f → ERel φ e f := fun i e f a b => k2 i e f a (by simpa using b)
    unfold Instr.mapUpdate
    rcases mapPut_ok 0 h4 with ⟨f1, rfl⟩ | ⟨j, e, f1, f2, f3, rfl⟩
    · obtain ⟨r', g1, g2⟩ := find _ f1 (by simpa using k1) k2'
      have : r' = none := by
        rcases g2 with ⟨_, g⟩ | ⟨_, _, _, g, _⟩
        · exact g
        · cases g
      subst this
      have hE : ERel φ ⟨key, x, clock⟩ ⟨key', x', clock⟩ := ⟨hk, hx, rfl⟩
      have hp := Post.put (x := .map es clock) (y := .map (es ++ [⟨key, x, clock⟩]) (clock + 1)) (q := .map (fs.push ⟨key', x', clock⟩) (clock + 1)) hS hb rfl hL hw (map_push k1 k2 hE)
      refine ⟨_, φ, _, ?_, hp, h5⟩
      simp only [Sem.run_bind, undT_run hu, Result.andThen_ok, run_getObj hw nc, checkKey_ok h2 hk, g1, run_setObj hw nc]
    · obtain ⟨r', g1, g2⟩ := find _ f1 (by simpa using k1) k2'
      obtain ⟨v', rfl⟩ : ∃ v', r' = some (j, v') := by
        rcases g2 with ⟨g, _⟩ | ⟨j', v, v', g, g', _⟩
        · cases g
        · cases g
          exact ⟨v', by rw [g']; simp⟩
      have hj : j < fs.size := by
        have := (List.getElem?_eq_some_iff.1 f2).1
        omega
      have hfj : fs[j]? = some fs[j] := Array.getElem?_eq_getElem hj
      have hE := k2 j e fs[j] f2 hfj
      have hp := Post.put (x := .map es clock) (y := .map (es.set j { e with key := key, val := x }) clock) (q := .map (fs.modify j fun e => { e with key := key', val := x' }) clock) hS hb rfl hL hw (map_set k1 k2 fun f hf => ⟨hk, hx, (k2 j e f f2 hf).2.2⟩)
      refine ⟨_, φ, _, ?_, hp, h5⟩
      · simp only [Sem.run_bind, undT_run hu, Result.andThen_ok, run_getObj hw nc, checkKey_ok h2 hk, g1, hfj, Option.map_some, Option.getD_some]
        rw [stays f3 hk hE.1]
        simp only [Result.andThen_ok, run_setObj hw nc]
end
end Go.Proofs.YtihplijjkcdcjaaGreatDoor.Abs

/-
  Iterators, entries of maps.
-/
namespace Go.Proofs.YtihplijjkcdcjaaGreatDoor.Abs
section
variable {P : Program} {φ : Phi} {st : St} {w : World} {β : Type}

/-- entries of maps, one by one -/
inductive EsR (φ : Phi) : List MapEntry → List MapEntry → Prop where
  | nil : EsR φ [] []
  | cons {e f : MapEntry} {es fs : List MapEntry} (h : ERel φ e f) (t : EsR φ es fs) : EsR φ (e :: es) (f :: fs)
theorem EsR.of : ∀ {es fs : List MapEntry}, es.length = fs.length → (∀ (i : Nat) (e f : MapEntry), es[i]? = some e → fs[i]? = some f → ERel φ e f) → EsR φ es fs
  | [], [], _, _ => .nil
  | [], _ :: _, h, _ => by simp at h
  | _ :: _, [], h, _ => by simp at h
  | e :: es, f :: fs, h, k => .cons (k 0 e f rfl rfl) (EsR.of (by simpa using h) fun i a b x y => k (i + 1) a b (by simpa using x) (by simpa using y))
theorem EsR.to {es fs : List MapEntry} (h : EsR φ es fs) : es.length = fs.length ∧ ∀ (i : Nat) (e f : MapEntry), es[i]? = some e → fs[i]? = some f → ERel φ e f := by
  induction h with
  | nil => exact ⟨rfl, fun i e f a => by simp at a⟩
  | cons h _ ih =>
    refine ⟨by simp [ih.1], fun i a b x y => ?_⟩
    cases i with
    | zero =>
      cases x
      cases y
      exact h
    | succ i => exact ih.2 i a b (by simpa using x) (by simpa using y)
theorem EsR.obj {es fs : List MapEntry} (h : EsR φ es fs) (L : Loc) (clock : Nat) : ORel φ L (.map es clock) (.map ⟨fs⟩ clock) := .map (by simpa using h.to.1) fun i e f a b => h.to.2 i e f a (by simpa using b)
theorem EsR.filter {es fs : List MapEntry} (h : EsR φ es fs) (q : Nat → Bool) : EsR φ (es.filter fun e => q e.born) (fs.filter fun e => q e.born) := by
  induction h with
  | nil => exact .nil
  | cons h _ ih =>
    rw [List.filter_cons, List.filter_cons, h.2.2]
    split
    · exact .cons h ih
    · exact ih
theorem EsR.any {es fs : List MapEntry} (h : EsR φ es fs) (q : Nat → Bool) : (es.any fun e => q e.born) = fs.any fun e => q e.born := by
  induction h with
  | nil => rfl
  | cons h _ ih => rw [List.any_cons, List.any_cons, h.2.2, ih]
theorem EsR.mem {es fs : List MapEntry} (h : EsR φ es fs) {e : MapEntry} (he : e ∈ es) : ∃ f, f ∈ fs ∧ ERel φ e f := by
  induction h with
  | nil => cases he
  | cons h _ ih =>
    rcases List.mem_cons.1 he with rfl | he
    · exact ⟨_, List.mem_cons_self, h⟩
    · obtain ⟨f, a, b⟩ := ih he
      exact ⟨f, List.mem_cons_of_mem _ a, b⟩
theorem EsR.find {es fs : List MapEntry} (h : EsR φ es fs) (q : Nat → Bool) {e : MapEntry} (he : (es.find? fun e => q e.born) = some e) : ∃ f, (fs.find? fun e => q e.born) = some f ∧ ERel φ e f := by
  induction h with
  | nil => cases he
  | cons h _ ih =>
    rw [List.find?_cons] at he ⊢
    rw [← h.2.2]
    split at he
    · cases he
      exact ⟨_, rfl, h⟩
    · exact ih he
theorem EsR.mono {ψ : Phi} (hle : φ.le ψ) {es fs : List MapEntry} (h : EsR φ es fs) : EsR ψ es fs := by
  induction h with
  | nil => exact .nil
  | cons h _ ih => exact .cons ⟨h.1.mono hle, h.2.1.mono hle, h.2.2⟩ ih
theorem mapAtL (hS : SRel φ st w) {b : Nat} {es : List MapEntry} {clock : Nat} {L : Loc} (hb : st.heap.get b = some (.map es clock)) (hL : φ b = some L) : ∃ fs, w.heap[L.blk]? = some (.map ⟨fs⟩ clock) ∧ EsR φ es fs := by
  obtain ⟨fs, h1, h2, h3⟩ := mapAt hS hb hL
  exact ⟨fs.toList, h1, .of (by simpa using h2) fun i e f a b => h3 i e f a (by simpa using b)⟩

theorem tup2 {a b a' b' : Value} (ha : VRel φ a a') (hb : VRel φ b b') : VRel φ (.tuple #[a, b]) (.tuple #[a', b']) := by
  refine .tuple rfl fun i v v' x y => ?_
  match i with
  | 0 => cases x; cases y; exact ha
  | 1 => cases x; cases y; exact hb
  | n + 2 => simp at x
theorem tup3 {a b c a' b' c' : Value} (ha : VRel φ a a') (hb : VRel φ b b') (hc : VRel φ c c') : VRel φ (.tuple #[a, b, c]) (.tuple #[a', b', c']) := by
  refine .tuple rfl fun i v v' x y => ?_
  match i with
  | 0 => cases x; cases y; exact ha
  | 1 => cases x; cases y; exact hb
  | 2 => cases x; cases y; exact hc
  | n + 3 => simp at x
theorem tup1 {a a' : Value} (ha : VRel φ a a') : VRel φ (.tuple #[a]) (.tuple #[a']) := by
  refine .tuple rfl fun i v v' x y => ?_
  match i with
  | 0 => cases x; cases y; exact ha
  | n + 1 => simp at x

theorem eRange_ok (hS : SRel φ st w) {t : TypeId} {x x' : Value} {k : Value → St → Rs β} {r : β} (h : eRange P st t x k = .ok r) (hx : VRel φ x x') : Act P φ st w (Instr.range t x') k r := by
  unfold eRange at h
  obtain ⟨u, hu, h1⟩ := Rs.bind_ok h
  unfold Instr.range
  have fin : ∀ (x : AObj) (o : Obj) (s : Sem Obj), s.run P w = .ok o w → (∀ ψ : Phi, φ.le ψ → ORel ψ ⟨w.heap.size, 0, 0, 0⟩ x o) → st.new x (fun n => k (.pointer (some ⟨n, 0, none⟩))) = .ok r →
      Act P φ st w (do let it ← s; pure (.pointer (some ⟨← newObj it, 0, none⟩))) k r := by
    intro x o s hs hx hk
    rw [St.new_eq] at hk
    refine ⟨_, _, φ.add st.next ⟨w.heap.size, 0, 0, 0⟩, .pointer (some ⟨w.heap.size, 0, none⟩), _, ?_, Post.new hS x o ⟨w.heap.size, 0, 0, 0⟩ rfl hx, ?_, hk⟩
    · simp [hs]
    · exact .ptr (L := ⟨w.heap.size, 0, 0, 0⟩) 0 (Phi.add_same _ _ _)
  split at h1 <;> first | (cases h1; done) | skip
  · cases hx
    have := fin _ _ (pure (.stringIter _ 0)) rfl (fun ψ _ => .str rfl _ _) h1
    obtain ⟨v, st', ψ, v', w', a, b⟩ := this
    exact ⟨v, st', ψ, v', w', by simpa [undT_run hu] using a, b⟩
  · cases hx
    have := fin _ _ (pure (.mapIter none 0 #[] 0)) rfl (fun ψ _ => .nilIter rfl _ _ _) h1
    obtain ⟨v, st', ψ, v', w', a, b⟩ := this
    exact ⟨v, st', ψ, v', w', by simpa [undT_run hu] using a, b⟩
  · split at h1 <;> first | (cases h1; done) | skip
    rename_i hb
    cases hx with
    | map hL =>
      obtain ⟨fs, hw, _⟩ := mapAtL hS hb hL
      have hg := run_getObj (P := P) hw (fun _ _ _ e => by cases e)
      have := fin _ _ (pure (.mapIter (some _) _ #[] _)) rfl (fun ψ hle => .iter rfl (hle _ _ hL) _ _ _) h1
      obtain ⟨v, st', ψ, v', w', a, b⟩ := this
      exact ⟨v, st', ψ, v', w', by simpa [undT_run hu, hg] using a, b⟩

theorem eNextStr_ok (hS : SRel φ st w) {b pos : Nat} {s : ByteArray} {L : Loc} {t : TypeId} {k : Value → St → Rs β} {r : β} (hb : st.heap.get b = some (.str s pos)) (hL : φ b = some L) (h : eNextStr st b s pos k = .ok r) :
    Act P φ st w (Instr.next (.pointer (some ⟨L.blk, L.base + 0, none⟩)) true t) k r := by
  obtain ⟨o, h1, h2⟩ := hS.mem.objAt hb hL
  cases h2 with
  | str hbase s pos =>
    unfold eNextStr at h
    have hsz : lenN s.data.toList = s.size := by rw [lenN_eq]; exact Array.length_toList
    have nc : ∀ c e fr, Obj.stringIter s pos ≠ .cells c e fr := fun _ _ _ e => by cases e
    unfold Instr.next
    rw [hbase]
    rcases ifb_ok h with ⟨c1, c2⟩ | ⟨c1, c2⟩
    · rw [natK_eq, natK_eq, St.put_eq] at c2
      rw [hsz] at c1
      have hlt : pos < s.size := by simpa using c1
      refine ⟨_, _, φ, _, _, ?_, Post.put (q := .stringIter s (pos + (Utf8.decode s pos).2)) hS hb rfl hL h1 (.str hbase _ _), tup3 (.bool _) (.int _ _) (.int _ _), c2⟩
      simp only [Sem.run_bind, run_getObj h1 nc, Result.andThen_ok, hlt, if_true, run_setObj h1 nc, Sem.run_pure]
      rfl
    · rw [hsz] at c1
      have hlt : ¬ pos < s.size := by
        have := Nat.blt_eq (x := pos) (y := s.size)
        rw [c1] at this
        simpa using this
      refine ⟨_, st, φ, _, w, ?_, .refl hS, tup1 (.bool _), c2⟩
      simp only [Sem.run_bind, run_getObj h1 nc, Result.andThen_ok, hlt, if_false, Sem.run_pure]

theorem cont_any (l : List Nat) (b : Nat) : (l.any fun x => Nat.beq x b) = l.contains b := by
  induction l with
  | nil => rfl
  | cons x l ih =>
    rw [List.any_cons, List.contains_cons, ih]
    congr 1
    by_cases e : x = b
    · subst e; simp
    · have : Nat.beq x b = false := by
        cases hq : Nat.beq x b with
        | false => rfl
        | true => exact absurd (Nat.eq_of_beq_eq_true hq) e
      rw [this]
      symm
      rw [beq_eq_false_iff_ne]
      exact fun h => e h.symm
theorem filt (fs : List MapEntry) (l : List Nat) : ((⟨fs⟩ : Array MapEntry).filter fun e => !(⟨l⟩ : Array Nat).contains e.born) = ⟨fs.filter fun e => !(l.any fun x => Nat.beq x e.born)⟩ := by
  apply Array.ext'
  rw [Array.toList_filter]
  congr 1
  funext e
  rw [cont_any]
  simp
theorem eNextMap_ok (hS : SRel φ st w) {b m since stepped : Nat} {seen : List Nat} {L : Loc} {t : TypeId} {k : Value → St → Rs β} {r : β} (hb : st.heap.get b = some (.iter (some m) since seen stepped)) (hL : φ b = some L)
    (h : eNextMap st b m since seen stepped (st.heap.get m) k = .ok r) : Act P φ st w (Instr.next (.pointer (some ⟨L.blk, L.base + 0, none⟩)) false t) k r := by
  obtain ⟨o, h1, h2⟩ := hS.mem.objAt hb hL
  cases h2 with
  | @iter _ M hbase hM =>
    unfold eNextMap at h
    split at h <;> first | (cases h; done) | skip
    rename_i es clock hm
    obtain ⟨fs, hw, hE⟩ := mapAtL hS hm hM
    have nc : ∀ c e fr, Obj.mapIter (some M.blk) since ⟨seen⟩ stepped ≠ .cells c e fr := fun _ _ _ e => by cases e
    have hg1 := run_getObj (P := P) h1 nc
    have hg2 := run_getObj (P := P) hw (fun _ _ _ e => by cases e)
    have hF := hE.filter fun n => !(seen.any fun x => Nat.beq x n)
    have over : (fs.filter fun e => !(seen.any fun x => Nat.beq x e.born)) = [] → (¬ ((!(⟨seen⟩ : Array Nat).isEmpty && !(⟨fs⟩ : Array MapEntry).isEmpty && (⟨fs⟩ : Array MapEntry).all fun e => decide (e.born ≥ stepped)) = true)) → k (.tuple #[.bool false]) st = .ok r →
        Act P φ st w (Instr.next (.pointer (some ⟨L.blk, L.base + 0, none⟩)) false t) k r := by
      intro o1 o2 o3
      refine ⟨_, st, φ, _, w, ?_, .refl hS, tup1 (.bool false), o3⟩
      unfold Instr.next
      rw [hbase]
      simp only [Sem.run_bind, hg1, Result.andThen_ok, hg2]
      rw [if_neg o2, filt, o1]
      simp [Question.forced]
    have notall : (es.any fun e => Nat.blt e.born stepped) = true → ¬ ((!(⟨seen⟩ : Array Nat).isEmpty && !(⟨fs⟩ : Array MapEntry).isEmpty && (⟨fs⟩ : Array MapEntry).all fun e => decide (e.born ≥ stepped)) = true) := by
      intro ha hc
      rw [hE.any fun n => Nat.blt n stepped] at ha
      obtain ⟨f, hf1, hf2⟩ := List.any_eq_true.1 ha
      simp only [Bool.and_eq_true] at hc
      have hc2 := hc.2
      simp at hc2
      have := hc2 f hf1
      have h3 : f.born < stepped := by simpa using hf2
      omega
    generalize h3 : (es.filter fun e => !(seen.any fun x => Nat.beq x e.born)) = le at h hF
    generalize hq : (fs.filter fun e => !(seen.any fun x => Nat.beq x e.born)) = lf at hF over
    cases hF with
    | nil =>
      cases seen with
      | nil => exact over rfl (by simp) h
      | cons b0 bs =>
        obtain ⟨h5, h6⟩ := ifb_no h
        refine over rfl ?_ h6
        rcases Bool.or_eq_true_iff.1 h5 with h7 | h7
        · exact notall h7
        · have : es = [] := by simpa using h7
          subst this
          cases hE
          simp
    | @cons e f es2 fs2 he ht =>
      cases ht with
      | cons _ _ => cases h
      | nil =>
        obtain ⟨h5, h6⟩ := ifb_no h
        rw [St.put_eq] at h6
        simp only [Bool.and_eq_true] at h5
        have hin : e ∈ es := by
          have : e ∈ es.filter fun e => !(seen.any fun x => Nat.beq x e.born) := by rw [h3]; exact List.mem_cons_self
          exact (List.mem_filter.1 this).1
        have hsince : f.born < since := by rw [← he.2.2]; simpa using h5.1
        have hn := notall (List.any_eq_true.2 ⟨e, hin, h5.2⟩)
        refine ⟨_, _, φ, .tuple #[.bool true, f.key, f.val], _, ?_, Post.put (q := .mapIter (some M.blk) since ⟨seen ++ [e.born]⟩ clock) hS hb rfl hL h1 (.iter hbase hM _ _ _), tup3 (.bool _) he.1 he.2.1, h6⟩
        unfold Instr.next
        rw [hbase]
        simp only [Sem.run_bind, hg1, Result.andThen_ok, hg2]
        rw [if_neg hn, filt, hq]
        have hge : ¬ since ≤ f.born := by omega
        simp [hsince, hge, Question.forced, run_setObj h1 nc, he.2.2]
end
end Go.Proofs.YtihplijjkcdcjaaGreatDoor.Abs

/-
  Steps and entries of maps, deletions.
-/
namespace Go.Proofs.YtihplijjkcdcjaaGreatDoor.Abs
section
variable {P : Program} {φ : Phi} {st : St} {w : World} {β : Type}

theorem beq_nat (x b : Nat) : Nat.beq x b = (x == b) := by
  by_cases e : x = b
  · subst e; simp
  · have : Nat.beq x b = false := by
      cases hq : Nat.beq x b with
      | false => rfl
      | true => exact absurd (Nat.eq_of_beq_eq_true hq) e
    rw [this]
    symm
    rw [beq_eq_false_iff_ne]
    exact e
theorem eNext_ok (hS : SRel φ st w) {b : Bool} {it it' : Value} {t : TypeId} {k : Value → St → Rs β} {r : β} (h : eNext st b it k = .ok r) (hx : VRel φ it it') : Act P φ st w (Instr.next it' b t) k r := by
  unfold eNext at h
  split at h <;> first | (cases h; done) | skip
  rename_i a
  unfold eNext2 at h
  cases hx with
  | @ptr _ L _ hL =>
    split at h <;> first | (cases h; done) | skip
    · rename_i hb
      exact eNextStr_ok hS hb hL h
    · rename_i hb
      obtain ⟨o, h1, h2⟩ := hS.mem.objAt hb hL
      cases h2 with
      | nilIter hbase =>
        refine ⟨_, st, φ, _, w, ?_, .refl hS, tup1 (.bool false), h⟩
        unfold Instr.next
        rw [hbase]
        simp [run_getObj h1 (fun _ _ _ e => by cases e)]
    · rename_i hb
      exact eNextMap_ok hS hb hL h

theorem eEntry_ok (hS : SRel φ st w) {it it' : Value} {k : Value → St → Rs β} {r : β} (h : eEntry st it k = .ok r) (hx : VRel φ it it') : Act P φ st w (Instr.entry it') k r := by
  unfold eEntry at h
  split at h <;> first | (cases h; done) | skip
  split at h <;> first | (cases h; done) | skip
  rename_i m since seen stepped hb
  split at h <;> first | (cases h; done) | skip
  rename_i b hl
  unfold eEntry2 at h
  split at h <;> first | (cases h; done) | skip
  rename_i es clock hm
  obtain ⟨h1, h2⟩ := ifb_no h
  split at h2 <;> first | (cases h2; done) | skip
  rename_i e he
  cases hx with
  | @ptr _ L _ hL =>
    obtain ⟨o, g1, g2⟩ := hS.mem.objAt hb hL
    cases g2 with
    | @iter _ M hbase hM =>
      obtain ⟨fs, hw, hE⟩ := mapAtL hS hm hM
      obtain ⟨f, hf, hR⟩ := hE.find (fun n => Nat.beq n b) he
      refine ⟨_, st, φ, .tuple #[f.key, f.val], w, ?_, .refl hS, tup2 hR.1 hR.2.1, h2⟩
      have hcs : clock = stepped := Nat.eq_of_beq_eq_true h1
      have hback : (⟨seen⟩ : Array Nat).back? = some b := by simpa [Array.back?_eq_getElem?, List.getLast?_eq_getElem?] using hl
      have hf' : (⟨fs⟩ : Array MapEntry).find? (fun e => e.born == b) = some f := by
        rw [← Array.find?_toList]
        have : (fun e : MapEntry => e.born == b) = fun e => Nat.beq e.born b := by
          funext e
          exact (beq_nat e.born b).symm
        rw [this]
        exact hf
      unfold Instr.entry
      rw [hbase]
      simp only [Sem.run_bind, run_getObj g1 (fun _ _ _ e => by cases e), Result.andThen_ok, hback, run_getObj hw (fun _ _ _ e => by cases e), hcs, bne_self_eq_false, Bool.false_eq_true, if_false, hf', Sem.run_pure]

theorem eMapEntry_ok (hS : SRel φ st w) {t : TypeId} {m key m' key' : Value} {k : Value → St → Rs β} {r : β} (h : eMapEntry P st t m key k = .ok r) (hm : VRel φ m m') (hk : VRel φ key key') :
    Act P φ st w (Instr.mapEntry t m' key') k r := by
  unfold eMapEntry at h
  obtain ⟨u, hu, h1⟩ := Rs.bind_ok h
  split at h1 <;> first | (cases h1; done) | skip
  rename_i kt el b
  split at h1 <;> first | (cases h1; done) | skip
  rename_i es clock hb
  obtain ⟨h2, h3⟩ := ifb_no h1
  obtain ⟨q, f1, h5⟩ := Rs.bind_ok h3
  cases hm with
  | @map _ L hL =>
    obtain ⟨fs, hw, k1, k2⟩ := mapAt hS hb hL
    have nc : ∀ c e fr, Obj.map fs clock ≠ .cells c e fr := fun _ _ _ e => by cases e
    have k2' : ∀ (i : Nat) (e f : MapEntry), es[i]? = some e → fs.toList[i]? = some f → ERel φ e f := fun i e f a b => k2 i e f a (by simpa using b)
    obtain ⟨r', g1, g2⟩ := findR_ok (P := P) hS.mem h2 hk f1 (by simpa using k1) k2'
    unfold Instr.mapEntry
    rcases g2 with ⟨rfl, rfl⟩ | ⟨j, v, v', rfl, rfl, hv⟩
    · obtain ⟨z, h6, h7⟩ := Rs.bind_ok h5
      rw [natK_eq, St.put_eq] at h7
      obtain ⟨z1, z2⟩ := zeroT_ok h6
      have hE : ERel φ ⟨key, z, clock⟩ ⟨key', z, clock⟩ := ⟨hk, z2.rel φ, rfl⟩
      have hp := Post.put (x := .map es clock) (y := .map (es ++ [⟨key, z, clock⟩]) (clock + 1)) (q := .map (fs.push ⟨key', z, clock⟩) (clock + 1)) hS hb rfl hL hw (map_push k1 k2 hE)
      refine ⟨_, _, φ, .tuple #[z, goInt clock], _, ?_, hp, tup2 (z2.rel φ) (.int _ _), h7⟩
      simp only [Sem.run_bind, undT_run hu, Result.andThen_ok, run_getObj hw nc, checkKey_ok h2 hk, g1, z1 w, run_setObj hw nc, Sem.run_pure]
    · obtain ⟨e, h6, h7⟩ := Rs.bind_ok h5
      obtain ⟨h8, h9⟩ := ifb_no h7
      have he := Rs.of_ok h6
      rw [nth_eq] at he
      have hj : j < fs.size := by
        have := (List.getElem?_eq_some_iff.1 he).1
        omega
      have hfj : fs[j]? = some fs[j] := Array.getElem?_eq_getElem hj
      have hE := k2 j e fs[j] he hfj
      obtain ⟨s1, s2, s3⟩ := sameKey_ok h8 hk hE.1
      have hmod : (fs.modify j fun e => { e with key := key' }) = fs := by
        apply Array.ext_getElem?
        intro i
        rw [Array.getElem?_modify]
        split
        · rename_i hij
          subst hij
          rw [hfj, Option.map_some, s2]
        · rfl
      refine ⟨_, st, φ, .tuple #[v', goInt fs[j].born], w, ?_, .refl hS, tup2 hv (by rw [hE.2.2]; exact .int _ _), h9⟩
      simp only [Sem.run_bind, undT_run hu, Result.andThen_ok, run_getObj hw nc, checkKey_ok h2 hk, g1, hfj, Option.map_some, Option.getD_some]
      rw [stays h8 hk hE.1]
      simp only [Result.andThen_ok, run_setObj hw nc, Sem.run_pure, hmod]
      congr 2
      apply Array.ext_getElem?
      intro i
      rw [Array.getElem?_setIfInBounds]
      split
      · rename_i hi
        subst hi
        rw [if_pos (Array.getElem?_eq_some_iff.1 hw).1, hw]
      · rfl

theorem bornSet_ok {b : Nat} {x x' : Value} (hx : VRel φ x x') : ∀ {es fs qs : List MapEntry}, bornSet b x es = some qs → EsR φ es fs → ∃ i, fs.findIdx? (fun e => (e.born : Int) == (b : Int)) = some i ∧ EsR φ qs (fs.modify i fun e => { e with val := x' })
  | [], _, _, h, _ => by cases h
  | e :: es, _, qs, h, .cons (f := f) (fs := fs) he ht => by
    have h' : ifb (Nat.beq e.born b) (some ({ e with val := x } :: es)) (Option.rec none (fun r => some (e :: r)) (bornSet b x es)) = some qs := h
    rw [ifb_eq] at h'
    have hbb : ((f.born : Int) == (b : Int)) = Nat.beq e.born b := by
      rw [← he.2.2]
      rw [Bool.eq_iff_iff, beq_iff_eq]
      constructor
      · intro q
        have : e.born = b := by omega
        rw [this]; simp
      · intro q
        rw [Nat.eq_of_beq_eq_true q]
    rw [List.findIdx?_cons, hbb]
    split at h'
    · rename_i hc
      cases h'
      rw [if_pos hc]
      exact ⟨0, rfl, .cons ⟨he.1, hx, he.2.2⟩ ht⟩
    · rename_i hc
      rw [if_neg hc]
      cases hs : bornSet b x es with
      | none => rw [hs] at h'; cases h'
      | some q2 =>
        rw [hs] at h'
        cases h'
        obtain ⟨i, h1, h2⟩ := bornSet_ok hx hs ht
        exact ⟨i + 1, by rw [h1]; rfl, .cons he h2⟩

theorem eEntryStore_ok (hS : SRel φ st w) {t : TypeId} {m b x m' b' x' : Value} {k : Value → St → Rs β} {r : β} (h : eEntryStore st m b x k = .ok r) (hm : VRel φ m m') (hb : VRel φ b b') (hx : VRel φ x x') :
    ActU P φ st w (Instr.entryStore t m' b' x') k r := by
  unfold eEntryStore at h
  split at h <;> first | (cases h; done) | skip
  rename_i rr kk bb
  split at h <;> first | (cases h; done) | skip
  rename_i es clock hg
  obtain ⟨qs, h1, h2⟩ := Rs.bind_ok h
  rw [St.put_eq] at h2
  cases hb
  cases hm with
  | @map _ L hL =>
    obtain ⟨fs, hw, hE⟩ := mapAtL hS hg hL
    have nc : ∀ c e fr, Obj.map ⟨fs⟩ clock ≠ .cells c e fr := fun _ _ _ e => by cases e
    obtain ⟨i, h3, h4⟩ := bornSet_ok hx (Rs.of_ok h1) hE
    have hp := Post.put (y := .map qs clock) hS hg rfl hL hw (h4.obj L clock)
    refine ⟨_, φ, _, ?_, hp, h2⟩
    unfold Instr.entryStore
    have hi : (⟨fs⟩ : Array MapEntry).findIdx? (fun e => (e.born : Int) == Int.ofNat bb) = some i := by
      rw [List.findIdx?_toArray]
      exact h3
    have hmod : ((⟨fs⟩ : Array MapEntry).modify i fun e => { e with val := x' }) = ⟨fs.modify i fun e => { e with val := x' }⟩ := by
      apply Array.ext'
      simp
    simp only [Sem.run_bind, run_getObj hw nc, Result.andThen_ok, asInt, asIntOf, Sem.run_pure, hi, run_setObj hw nc, hmod]

theorem mapDel_ok {hh : Tr AObj} {t : TypeId} {key : Value} : ∀ {es q : List MapEntry} (i : Nat), mapDel P hh t key es = .ok q →
    (findR P hh t key es i = .ok none ∧ q = es) ∨ ∃ j e, findR P hh t key es i = .ok (some (i + j, e)) ∧ q = es.eraseIdx j
  | [], q, i, h => by
    cases h
    exact .inl ⟨rfl, rfl⟩
  | e :: es, q, i, h => by
    have h' : ((keyEq P hh t key e.key).bind fun b => ifb b (.ok es) ((mapDel P hh t key es).bind fun r => .ok (e :: r))) = .ok q := h
    obtain ⟨b, h1, h2⟩ := Rs.bind_ok h'
    have hf : findR P hh t key (e :: es) i = (keyEq P hh t key e.key).bind fun b => ifb b (.ok (some (i, e.val))) (findR P hh t key es (i + 1)) := rfl
    rw [hf, h1]
    cases b with
    | true =>
      cases h2
      exact .inr ⟨0, e.val, rfl, rfl⟩
    | false =>
      obtain ⟨r, h3, h4⟩ := Rs.bind_ok (show ((mapDel P hh t key es).bind fun r => .ok (e :: r)) = Rs.ok q from h2)
      cases h4
      rcases mapDel_ok (i + 1) h3 with ⟨f1, rfl⟩ | ⟨j, e', f1, rfl⟩
      · exact .inl ⟨f1, rfl⟩
      · refine .inr ⟨j + 1, e', ?_, rfl⟩
        show findR P hh t key es (i + 1) = _
        rw [f1, show i + 1 + j = i + (j + 1) by omega]
theorem EsR.erase {es fs : List MapEntry} (h : EsR φ es fs) : ∀ j, EsR φ (es.eraseIdx j) (fs.eraseIdx j) := by
  induction h with
  | nil => exact fun _ => .nil
  | cons he ht ih =>
    intro j
    cases j with
    | zero => exact ht
    | succ j => exact .cons he (ih j)
theorem eDelete_ok (hS : SRel φ st w) {ts : Array TypeId} {t ty : TypeId} {args : Array Value} {m key m' key' : Value} {k : Value → St → Rs β} {r : β} (ht : ts[0]? = some t) (h : eDelete P st t m key k = .ok r) (h0 : args[0]? = some m') (h1 : args[1]? = some key')
    (hm : VRel φ m m') (hk : VRel φ key key') : Act P φ st w (Builtin.delete_ ts ty args) k r := by
  unfold eDelete at h
  obtain ⟨u, hu, e1⟩ := Rs.bind_ok h
  unfold Builtin.delete_
  rw [ht, h0, h1]
  have und : VRel φ undefV (.tuple #[]) := .tuple rfl fun i v v' a => by simp at a
  split at e1 <;> first | (cases e1; done) | skip
  · obtain ⟨h2, h3⟩ := ifb_no e1
    cases hm
    refine ⟨_, st, φ, _, w, ?_, .refl hS, und, h3⟩
    simp only [Sem.run_bind, undT_run hu, Result.andThen_ok, checkKey_ok h2 hk, Sem.run_pure]
  · split at e1 <;> first | (cases e1; done) | skip
    rename_i es clock hb
    obtain ⟨h2, h3⟩ := ifb_no e1
    obtain ⟨q, h4, h5⟩ := Rs.bind_ok h3
    rw [St.put_eq] at h5
    cases hm with
    | @map _ L hL =>
      obtain ⟨fs, hw, hE⟩ := mapAtL hS hb hL
      have nc : ∀ c e fr, Obj.map ⟨fs⟩ clock ≠ .cells c e fr := fun _ _ _ e => by cases e
      rcases mapDel_ok 0 h4 with ⟨f1, rfl⟩ | ⟨j, e', f1, rfl⟩
      · obtain ⟨r', g1, g2⟩ := findR_ok (P := P) hS.mem h2 hk f1 hE.to.1 hE.to.2
        have : r' = none := by
          rcases g2 with ⟨_, g⟩ | ⟨_, _, _, g, _⟩
          · exact g
          · cases g
        subst this
        have hp := Post.put (y := .map q clock) hS hb rfl hL hw (hE.obj L clock)
        refine ⟨_, _, φ, _, _, ?_, hp, und, h5⟩
        simp only [Sem.run_bind, undT_run hu, Result.andThen_ok, run_getObj hw nc, checkKey_ok h2 hk, g1, run_setObj hw nc, Sem.run_pure]
      · obtain ⟨r', g1, g2⟩ := findR_ok (P := P) hS.mem h2 hk f1 hE.to.1 hE.to.2
        obtain ⟨v', rfl⟩ : ∃ v', r' = some (j, v') := by
          rcases g2 with ⟨g, _⟩ | ⟨j', v, v', g, g', _⟩
          · cases g
          · cases g
            exact ⟨v', by rw [g']; simp⟩
        have her : (⟨fs⟩ : Array MapEntry).eraseIdxIfInBounds j = ⟨fs.eraseIdx j⟩ := by
          apply Array.ext'
          rw [Array.toList_eraseIdxIfInBounds]
        have hp := Post.put (y := .map (es.eraseIdx j) clock) hS hb rfl hL hw ((hE.erase j).obj L clock)
        refine ⟨_, _, φ, _, _, ?_, hp, und, h5⟩
        simp only [Sem.run_bind, undT_run hu, Result.andThen_ok, run_getObj hw nc, checkKey_ok h2 hk, g1, run_setObj hw nc, Sem.run_pure, her]
end
end Go.Proofs.YtihplijjkcdcjaaGreatDoor.Abs

/-
  Appends.
-/
namespace Go.Proofs.YtihplijjkcdcjaaGreatDoor.Abs
section
variable {P : Program} {φ : Phi} {st : St} {w : World} {β : Type}

theorem load_any {b base o n : Nat} {c : Array Value} {e : TypeId} {fr : Nat × Nat} {L : Loc} {l cs : List Value} (hb : L.blk = b) (hL : L.base = base) (h1 : w.heap[b]? = some (.cells c e fr)) (hc : CellsAt φ L l c) (hcut : cutN l o n = some cs) :
    ∃ cs', (∀ d, (loadCells ⟨b, base + o, none⟩ n).run P { w with drawn := d } = .ok ⟨cs'⟩ { w with drawn := d }) ∧ LRel φ cs cs' := by
  obtain ⟨cs', h2, h3⟩ := load_many (P := P) hb hL h1 hc hcut
  refine ⟨cs', fun d => ?_, h3⟩
  obtain ⟨cs2, h4, h5⟩ := load_many (P := P) (w := { w with drawn := d }) hb hL h1 hc hcut
  obtain ⟨hn, _⟩ := cutN_some hcut
  subst hb hL
  have hget : ∀ j, j < n → ∃ v', c[L.base + (o + j)]? = some v' := fun j hj => by
    have hlt : o + j < l.length := by omega
    obtain ⟨v', h2, h3⟩ := hc (o + j) _ (List.getElem?_eq_getElem hlt)
    exact ⟨v', h2⟩
  have r1 := run_loadCells (P := P) w ⟨L.blk, L.base + o, none⟩ n (fun j => (c[L.base + (o + j)]?).getD undefV) (fun j hj => by
      obtain ⟨v', h2⟩ := hget j hj
      rw [add_none, cell_of h1, Nat.add_assoc, h2]; rfl)
  have r2 := run_loadCells (P := P) { w with drawn := d } ⟨L.blk, L.base + o, none⟩ n (fun j => (c[L.base + (o + j)]?).getD undefV) (fun j hj => by
      obtain ⟨v', h2⟩ := hget j hj
      rw [add_none, cell_of (w := { w with drawn := d }) h1, Nat.add_assoc, h2]; rfl)
  rw [r2]
  rw [h2] at r1
  cases r1
  rfl
/-- the elements a slice or a string gives -/
theorem srcCells_ok {h : Tr AObj} (hm : HRel φ h w) {s n : Nat} {x x' : Value} {cs : List Value} (e : srcCells h s x = .ok (n, cs)) (hx : VRel φ x x') :
    (∀ w, (Builtin.lenOf x').run P w = .ok n w) ∧ ∀ m, m ≤ n → ∃ c : List Value, (∀ d, (Builtin.firstCells s m x').run P { w with drawn := d } = .ok ⟨c⟩ { w with drawn := d }) ∧ LRel φ (cs.take (m * s)) c := by
  unfold srcCells at e
  split at e <;> first | (cases e; done) | skip
  · cases e
    cases hx
    exact ⟨fun _ => rfl, fun m hm => ⟨[], fun _ => rfl, by simp; exact .nil φ⟩⟩
  · rename_i b o n' c'
    have main : ∀ l, (Rs.of 75 (cutN l o (n' * s))).bind (fun cs => .ok (n', cs)) = Rs.ok (n, cs) → (∀ L, φ b = some L → ∃ c ty fr, w.heap[L.blk]? = some (.cells c ty fr) ∧ CellsAt φ L l c) →
        (∀ w, (Builtin.lenOf x').run P w = .ok n w) ∧ ∀ m, m ≤ n → ∃ c : List Value, (∀ d, (Builtin.firstCells s m x').run P { w with drawn := d } = .ok ⟨c⟩ { w with drawn := d }) ∧ LRel φ (cs.take (m * s)) c := by
      intro l e1 hb
      obtain ⟨c, h1, h2⟩ := Rs.bind_ok e1
      cases h2
      have hcut := Rs.of_ok h1
      have cut : ∀ m, m ≤ n → cutN l o (m * s) = some (cs.take (m * s)) := by
        intro m hmn
        obtain ⟨k1, rfl⟩ := cutN_some hcut
        have hms : m * s ≤ n * s := Nat.mul_le_mul_right s hmn
        rw [cutN_eq, if_pos (by omega), List.take_take, Nat.min_eq_left hms]
      have load : ∀ (L : Loc) (m : Nat), φ b = some L → m ≤ n → ∃ c : List Value, (∀ d, (loadCells ⟨L.blk, L.base + o, none⟩ (m * s)).run P { w with drawn := d } = .ok ⟨c⟩ { w with drawn := d }) ∧ LRel φ (cs.take (m * s)) c := by
        intro L m hL hmn
        obtain ⟨c, ty, fr, hw, hc⟩ := hb L hL
        exact load_any rfl rfl hw hc (cut m hmn)
      cases hx with
      | slice o hL => exact ⟨fun _ => rfl, fun m hmn => load _ m hL hmn⟩
      | room hL => exact ⟨fun _ => rfl, fun m hmn => load _ m hL hmn⟩
      | full a hL => 
        refine ⟨fun _ => rfl, fun m hmn => ⟨[], fun d => ?_, ?_⟩⟩
        · have : m = 0 := by omega
          subst this
          unfold Builtin.firstCells
          simp only [Nat.zero_mul]
          rfl
        · have : m = 0 := by omega
          subst this
          simp
          exact .nil φ
    split at e <;> first | (cases e; done) | skip
    · rename_i hb
      exact main _ e fun L hL => by
        obtain ⟨c, fr, h1, h2, _⟩ := hm.cellsAt hb hL
        exact ⟨c, _, fr, h1, h2⟩
    · rename_i hb
      exact main _ e fun L hL => by
        obtain ⟨c, _, fr, h1, h2⟩ := constAt hm hb hL
        exact ⟨c, _, fr, h1, h2⟩
  · rename_i str
    obtain ⟨h1, h2⟩ := ifb_no e
    cases h2
    cases hx
    have hs : s = 1 := Nat.eq_of_beq_eq_true h1
    have hsz : lenN str.data.toList = str.size := by rw [lenN_eq]; exact Array.length_toList
    subst hs
    refine ⟨fun _ => by rw [hsz]; rfl, fun m hmn => ⟨(byteCells str.data.toList).take m, fun d => ?_, ?_⟩⟩
    · unfold Builtin.firstCells
      simp only [Sem.run_pure]
      congr 1
      apply Array.ext'
      rw [byteCells_eq]
      simp [← List.map_take]
    · rw [Nat.mul_one]
      refine ⟨rfl, fun i v v' a b => ?_⟩
      rw [a] at b
      cases b
      rw [byteCells_eq, ← List.map_take, List.getElem?_map] at a
      obtain ⟨y, _, rfl⟩ := Option.map_eq_some_iff.1 a
      exact .int _ _

theorem eCopy_ok (hS : SRel φ st w) {ts : Array TypeId} {t ty : TypeId} {args : Array Value} {d src d' src' : Value} {k : Value → St → Rs β} {r : β} (ht : ts[0]? = some t) (h : eCopy P st t d src k = .ok r) (h0 : args[0]? = some d') (h1 : args[1]? = some src')
    (hd : VRel φ d d') (hs : VRel φ src src') : Act P φ st w (Builtin.copy_ ts ty args) k r := by
  unfold eCopy at h
  obtain ⟨u, hu, e1⟩ := Rs.bind_ok h
  split at e1 <;> first | (cases e1; done) | skip
  rename_i e a dn dc
  obtain ⟨s, hsz, e2⟩ := Rs.bind_ok e1
  obtain ⟨⟨n, cs⟩, hq, e3⟩ := Rs.bind_ok e2
  rw [natK_eq] at e3
  obtain ⟨k1, k2⟩ := srcCells_ok (P := P) hS.mem hq hs
  obtain ⟨c, k3', k4⟩ := k2 (min n dn) (Nat.min_le_left _ _)
  have k3 := k3' w.drawn
  obtain ⟨base, c2, rfl⟩ : ∃ base c2, d' = .slice base dn c2 := by
    cases hd <;> exact ⟨_, _, rfl⟩
  have hmin : Nat.min n dn = min n dn := rfl
  have run : ∀ w', (match base with | some a => storeCells a c | none => pure () : Sem Unit).run P w = .ok () w' → (Builtin.copy_ ts ty args).run P w = .ok (goInt (min n dn : Nat)) w' := by
    intro w' hw
    unfold Builtin.copy_
    rw [ht, h0, h1]
    simp only [Sem.run_bind, undT_run hu, Result.andThen_ok, k1, szT_run hsz, hmin, k3]
    cases base with
    | none => 
      simp only [Sem.run_pure] at hw ⊢
      cases hw
      rfl
    | some b =>
      simp only [Sem.run_bind] at hw ⊢
      rw [hw]
      rfl
  split at e3 <;> first | (cases e3; done) | skip
  · rename_i h2
    simp only at h2
    have hc : c = [] := by
      have := k4.1
      rw [h2] at this
      simpa using this.symm
    subst hc
    refine ⟨_, st, φ, _, w, run w (by cases base <;> rfl), .refl hS, ?_, e3⟩
    rw [h2]
    exact .int _ _
  · rename_i b o m h2
    simp only at h2
    obtain ⟨cc, h3, h4⟩ := Rs.bind_ok e3
    have h5 := Rs.of_ok h3
    rw [takeN_eq] at h5
    split at h5 <;> first | (cases h5; done) | skip
    obtain rfl := Option.some.inj h5
    rw [h2] at k4
    have fin : ∀ L, φ b = some L → base = some ⟨L.blk, L.base + o, none⟩ → Act P φ st w (Builtin.copy_ ts ty args) k r := by
      intro L hL hbase
      subst hbase
      obtain ⟨st', w', r1, r2, r3, _⟩ := turn_ok (P := P) hS hL h4 k4
      exact ⟨_, st', φ, _, w', run w' r1, r2, by rw [h2]; exact .int _ _, r3⟩
    cases hd with
    | slice o hL => exact fin _ hL rfl
    | room hL => exact fin _ hL rfl
    | full a hL => simp at h2
end
end Go.Proofs.YtihplijjkcdcjaaGreatDoor.Abs

/-
  Appends.
-/
namespace Go.Proofs.YtihplijjkcdcjaaGreatDoor.Abs
section
variable {P : Program} {φ : Phi} {st : St} {w : World} {β : Type}

/-- what is appended -/
inductive Src (P : Program) (w : World) (ts : Array TypeId) (sz b : Nat) (z : Value) (x : Value) (m : Nat) (new : List Value) : Prop where
  | zeros (xt : TypeId) (k k' : IntKind) (h1 : ts[1]? = some xt) (h2 : P.underlying xt = some (.int k)) (h3 : x = .int k' (Int.ofNat m)) (h4 : m ≤ 1073741824) (h5 : m * b ≤ 281474976710656) (h6 : new = reps (cellsOf z) m)
  | none (h1 : ts[1]? = none) (h2 : ∀ d, (Builtin.lenOf x).run P { w with drawn := d } = .ok m { w with drawn := d }) (h3 : ∀ d, (Builtin.firstCells sz m x).run P { w with drawn := d } = .ok ⟨new⟩ { w with drawn := d })
  | some (xt : TypeId) (u : TypeDesc) (h1 : ts[1]? = some xt) (h2 : P.underlying xt = some u) (hu : ∀ k, u ≠ .int k) (h3 : ∀ d, (Builtin.lenOf x).run P { w with drawn := d } = .ok m { w with drawn := d })
      (h4 : ∀ d, (Builtin.firstCells sz m x).run P { w with drawn := d } = .ok ⟨new⟩ { w with drawn := d })

theorem zeroCells_eq {z : Value} (hz : Flat z) (n : Nat) : Builtin.zeroCells z.cells n = ⟨reps (cellsOf z) n⟩ := by
  have hl : (cellsOf z).length = z.cells.size := by rw [flat_list hz]; simp
  have := reps_zero (n := n) hz hl
  apply Array.ext'
  rw [← this]
  rfl

def putAt (base : Option Addr) (o : Nat) (new : List Value) : Sem Unit :=
  match base with
  | some a => storeCells (a.add o) new
  | none => pure ()
theorem app_stay {ts : Array TypeId} {t ty e : TypeId} {args : Array Value} {base : Option Addr} {n c sz b m : Nat} {x : Value} {new : List Value} {z : Value} (ht : ts[0]? = some t) (h0 : args[0]? = some (.slice base n c)) (h1 : args[1]? = some x)
    (hu : P.underlying t = some (.slice e)) (hs : szT P e = .ok sz) (hb : bytesT P e = .ok b) (hz : zeroT P e = .ok z) (hlen : (cellsOf z).length = sz) (hx : Src P w ts sz b z x m new) (hc : n + m ≤ c) {w' : World}
    (hw : (putAt base (n * sz) new).run P w = .ok () w') : (Builtin.append_ ts ty args).run P w = .ok (.slice base (n + m) c) w' := by
  unfold putAt at hw
  obtain ⟨z1, z2⟩ := zeroT_ok hz
  obtain ⟨i, hi, hib⟩ := bytesT_run hb w
  unfold Builtin.append_
  rw [ht, h0, h1]
  simp only [Sem.run_bind, run_underlying hu, Result.andThen_ok, szT_run hs]
  cases hx with
  | zeros xt k k' g1 g2 g3 g4 g5 g6 =>
    subst g3
    rw [g1]
    have wl : IntKind.i64.wrap (m : Int) = (m : Int) := wrap_small .i64 m (by unfold kLim; simp only; omega)
    have n0 : ¬ ((m : Int) < 0) := by omega
    have nb : ¬ ((m : Int) * (i.bytes : Int) > 2 ^ 48) := by
      rw [hib]
      have : (m : Int) * (b : Int) = ((m * b : Nat) : Int) := by push_cast; rfl
      rw [this]
      omega
    have new' : (if m * sz = 0 then pure #[] else do pure (Builtin.zeroCells (← zeroValue e).cells m) : Sem (Array Value)).run P w = .ok ⟨new⟩ w := by
      split
      · rename_i h0
        have : new = [] := List.eq_nil_of_length_eq_zero (by rw [g6, reps_length, hlen, h0])
        rw [this]
        rfl
      · simp only [Sem.run_bind, z1, Result.andThen_ok, Sem.run_pure, zeroCells_eq z2, g6]
    simp only [Int.ofNat_eq_natCast, Sem.run_bind, run_underlying g2, Result.andThen_ok, Sem.run_pure, if_true, asInt, asIntOf, wl, if_neg n0, hi, if_neg nb, Int.toNat_natCast, if_pos hc, Bool.not_true, Bool.false_eq_true, if_false, new']
    cases base with
    | none =>
      cases hw
      rfl
    | some a =>
      simp only [Sem.run_bind] at hw ⊢
      rw [hw]
      rfl
  | none g1 g2 g3 =>
    rw [g1]
    have g2' := g2 w.drawn
    have g3' := g3 w.drawn
    simp only [Sem.run_bind, Sem.run_pure, Result.andThen_ok, Bool.false_eq_true, if_false, g2', if_pos hc, Bool.not_false, if_true, g3']
    cases base with
    | none =>
      cases hw
      rfl
    | some a =>
      simp only [Sem.run_bind] at hw ⊢
      rw [hw]
      rfl
  | some xt u g1 g0 gk g2 g3 =>
    rw [g1]
    have g2' := g2 w.drawn
    have g3' := g3 w.drawn
    simp only [Sem.run_bind, run_underlying g0, Sem.run_pure, Result.andThen_ok, Bool.false_eq_true, if_false, g2', if_pos hc, Bool.not_false, if_true, g3']
    cases base with
    | none =>
      cases hw
      rfl
    | some a =>
      simp only [Sem.run_bind] at hw ⊢
      rw [hw]
      rfl

theorem growBy_le (need : Nat) : ∀ (r c : Nat), c ≤ need + (need + 768) / 4 → Builtin.growBy need r c ≤ need + (need + 768) / 4
  | 0, _, h => h
  | r + 1, c, h => by
    unfold Builtin.growBy
    split
    · exact h
    · exact growBy_le need r _ (by omega)
theorem nextslicecap_le {need c : Nat} (h : c < need) : Builtin.nextslicecap need c ≤ 2 * need + 192 := by
  unfold Builtin.nextslicecap
  split
  · omega
  · split
    · omega
    · have := growBy_le need 4 c (by omega)
      omega
theorem cap_le {need c b : Nat} (h : c < need) (h2 : (2 * need + 192) * b ≤ 281474976710656) : ¬ Builtin.nextslicecap need c * b > 2 ^ 48 := by
  have h3 := Nat.mul_le_mul_right b (nextslicecap_le h)
  omega

theorem app_grow {ts : Array TypeId} {t ty e : TypeId} {args : Array Value} {base : Option Addr} {n c sz b m : Nat} {x : Value} {old new : List Value} {z : Value} (ht : ts[0]? = some t) (h0 : args[0]? = some (.slice base n c)) (h1 : args[1]? = some x)
    (hu : P.underlying t = some (.slice e)) (hs : szT P e = .ok sz) (hb : bytesT P e = .ok b) (hz : zeroT P e = .ok z) (hlen : (cellsOf z).length = sz) (hx : Src P w ts sz b z x m new) (hc : c < n + m)
    (ho : ∀ d, (Builtin.firstCells sz n (.slice base n c)).run P { w with drawn := d } = .ok ⟨old⟩ { w with drawn := d }) (l1 : n + m ≤ 140737488355328) (l3 : (2 * (n + m) + 192) * b ≤ 281474976710656) :
    ∃ cap, n + m ≤ cap ∧ (Builtin.append_ ts ty args).run P w = .ok (.slice (some ⟨w.heap.size, 0, none⟩) (n + m) cap) { w with heap := w.heap.push (.cells ⟨old ++ new ++ reps (cellsOf z) (cap - (n + m))⟩ e), drawn := w.drawn + 1 } := by
  obtain ⟨z1, z2⟩ := zeroT_ok hz
  obtain ⟨i, hi, hib⟩ := bytesT_run hb w
  refine ⟨(Question.appendCap (n + m) c e).cut (w.tape w.drawn (.appendCap (n + m) c e)), Nat.le_add_right _ _, ?_⟩
  have hcap := cap_le hc l3
  rw [← hib] at hcap
  have hmax : ∀ q : Prop, ¬ (((n + m : Nat) : Int) > IntKind.i64.max ∧ q) := by
    intro q hq
    have := hq.1
    have h2 : IntKind.i64.max = 9223372036854775807 := by decide
    rw [h2] at this
    omega
  have hti : ∀ d, (typeInfo e).run P { w with drawn := d } = .ok i { w with drawn := d } := by
    intro d
    obtain ⟨i', h1, h2⟩ := bytesT_run hb { w with drawn := d }
    have : i' = i := by
      unfold typeInfo at h1 hi
      simp only [Sem.run_bind, run_program, Result.andThen_ok] at h1 hi
      cases hq : P.info? e with
      | none => rw [hq] at hi; cases hi
      | some y => rw [hq] at h1 hi; cases h1; cases hi; rfl
    rw [h1, this]
  unfold Builtin.append_
  rw [ht, h0, h1]
  simp only [Sem.run_bind, run_underlying hu, Result.andThen_ok, szT_run hs]
  have hnf : (Question.appendCap (n + m) c e).forced = false := rfl
  have hgt : ¬ n + m ≤ c := by omega
  have arr : ∀ a b c : List Value, (⟨a⟩ ++ ⟨b⟩ ++ ⟨c⟩ : Array Value) = ⟨a ++ b ++ c⟩ := by intros; simp
  have ho' := ho (w.drawn + 1)
  have hti' := hti (w.drawn + 1)
  cases hx with
  | zeros xt k k' g1 g2 g3 g4 g5 g6 =>
    subst g3
    rw [g1]
    have wl : IntKind.i64.wrap (m : Int) = (m : Int) := wrap_small .i64 m (by unfold kLim; simp only; omega)
    have n0 : ¬ ((m : Int) < 0) := by omega
    have nb : ¬ ((m : Int) * (i.bytes : Int) > 2 ^ 48) := by
      rw [hib]
      have : (m : Int) * (b : Int) = ((m * b : Nat) : Int) := by push_cast; rfl
      rw [this]
      omega
    have new' : (if m * sz = 0 then pure #[] else do pure (Builtin.zeroCells (← zeroValue e).cells m) : Sem (Array Value)).run P { w with drawn := w.drawn + 1 } = .ok ⟨new⟩ { w with drawn := w.drawn + 1 } := by
      split
      · rename_i h0
        have : new = [] := List.eq_nil_of_length_eq_zero (by rw [g6, reps_length, hlen, h0])
        rw [this]
        rfl
      · simp only [Sem.run_bind, z1, Result.andThen_ok, Sem.run_pure, zeroCells_eq z2, g6]
    simp only [Int.ofNat_eq_natCast, Sem.run_bind, run_underlying g2, Result.andThen_ok, Sem.run_pure, if_true, asInt, asIntOf, wl, if_neg n0, hi, if_neg nb, Int.toNat_natCast, if_neg hgt, Bool.not_true, Bool.false_eq_true, if_false, if_neg (hmax _), if_neg hcap,
      run_choose, hnf, hti', run_askRoom, ho', new', z1, zeroCells_eq z2, newRow, run_newObj, arr]
  | none g1 g2 g3 =>
    rw [g1]
    have g2' := g2 w.drawn
    have g3' := g3 (w.drawn + 1)
    simp only [Sem.run_bind, Sem.run_pure, Result.andThen_ok, Bool.false_eq_true, if_false, g2', if_neg hgt, Bool.not_false, if_true, g3', hi, if_neg (hmax _), if_neg hcap, run_choose, hnf, hti', run_askRoom, ho', z1, zeroCells_eq z2, newRow, run_newObj, arr]
  | some xt u g1 g0 gk g2 g3 =>
    rw [g1]
    have g2' := g2 w.drawn
    have g3' := g3 (w.drawn + 1)
    simp only [Sem.run_bind, run_underlying g0, Sem.run_pure, Result.andThen_ok, Bool.false_eq_true, if_false, g2', if_neg hgt, Bool.not_false, if_true, g3', hi, if_neg (hmax _), if_neg hcap, run_choose, hnf, hti', run_askRoom, ho', z1, zeroCells_eq z2, newRow, run_newObj, arr]
end
end Go.Proofs.YtihplijjkcdcjaaGreatDoor.Abs

/-
  Appends: the evaluator's word holds.
-/
namespace Go.Proofs.YtihplijjkcdcjaaGreatDoor.Abs
section
variable {P : Program} {φ : Phi} {st : St} {w : World} {β : Type}

theorem srcCells_len {h : Tr AObj} {s n : Nat} {x : Value} {cs : List Value} (e : srcCells h s x = .ok (n, cs)) : cs.length = n * s := by
  unfold srcCells at e
  split at e <;> first | (cases e; done) | skip
  · cases e; simp
  · split at e <;> first | (cases e; done) | skip
    all_goals
      obtain ⟨q, h1, h2⟩ := Rs.bind_ok e
      cases h2
      obtain ⟨_, rfl⟩ := cutN_some (Rs.of_ok h1)
      simp
      omega
  · obtain ⟨h1, h2⟩ := ifb_no e
    cases h2
    have hs : s = 1 := Nat.eq_of_beq_eq_true h1
    rw [hs, lenN_eq, byteCells_eq]
    simp
theorem srcCells_n {h : Tr AObj} {s n c b o : Nat} {q : Nat × List Value} (e : srcCells h s (.slice (some ⟨b, o, none⟩) n c) = .ok q) : q.1 = n := by
  unfold srcCells at e
  simp only at e
  split at e <;> first | (cases e; done) | skip
  all_goals
    obtain ⟨_, _, h2⟩ := Rs.bind_ok e
    cases h2
    rfl

theorem appSrc_ok (hm : HRel φ st.heap w) {z : Value} (hz : Flat z) {ts : Array TypeId} {t : TypeId} {xt : List TypeId} (hts : ts.toList = t :: xt) {sz b m : Nat} {nw : List Value} {x x' : Value}
    (e : appSrc P st.heap sz (cellsOf z) xt x = .ok (m, nw)) (hlim : m * b ≤ 281474976710656) (hlen : (cellsOf z).length = sz) (hx : VRel φ x x') : ∃ new, Src P w ts sz b z x' m new ∧ LRel φ nw new ∧ nw.length = m * sz := by
  have src : srcCells st.heap sz x = .ok (m, nw) → ∃ new, ((∀ d, (Builtin.lenOf x').run P { w with drawn := d } = .ok m { w with drawn := d }) ∧ ∀ d, (Builtin.firstCells sz m x').run P { w with drawn := d } = .ok ⟨new⟩ { w with drawn := d }) ∧ LRel φ nw new ∧ nw.length = m * sz := by
    intro h
    obtain ⟨k1, k2⟩ := srcCells_ok (P := P) hm h hx
    obtain ⟨c, k3, k4⟩ := k2 m (Nat.le_refl _)
    have hl := srcCells_len h
    rw [List.take_of_length_le (by omega)] at k4
    exact ⟨c, ⟨fun d => k1 _, k3⟩, k4, hl⟩
  unfold appSrc at e
  cases xt with
  | nil =>
    obtain ⟨new, ⟨h1, h2⟩, h3⟩ := src e
    refine ⟨new, .none ?_ h1 h2, h3⟩
    have : ts[1]? = ts.toList[1]? := by simp
    rw [this, hts]; rfl
  | cons u us =>
    have hu1 : ts[1]? = some u := by
      have : ts[1]? = ts.toList[1]? := by simp
      rw [this, hts]; rfl
    obtain ⟨ud, hu, e1⟩ := Rs.bind_ok e
    split at e1
    · split at e1 <;> first | (cases e1; done) | skip
      obtain ⟨h1, h2⟩ := ifb_no e1
      rw [natK_eq] at h2
      cases h2
      cases hx
      exact ⟨_, .zeros u _ _ hu1 (undT_ok hu) rfl (by simpa using h1) hlim rfl, reps_rel hz _, by rw [reps_length, hlen]⟩
    · rename_i hne
      obtain ⟨new, ⟨h1, h2⟩, h3⟩ := src e1
      exact ⟨new, .some u ud hu1 (undT_ok hu) (fun k hk => hne k hk) h1 h2, h3⟩

/-- A BLOCK IS FORGOTTEN. -/
theorem Post.kill (hS : SRel φ st w) (b : Nat) : Post φ st w φ ⟨st.heap.del b, st.next⟩ w :=
  ⟨⟨⟨fun c d x y L M h1 h2 h3 h4 h5 h6 => hS.mem.inj c d x y L M (Tr.get_del h1).2 (Tr.get_del h2).2 h3 h4 h5 h6, fun c x h1 => hS.mem.obj c x (Tr.get_del h1).2⟩, hS.fresh, hS.globals⟩, φ.le_refl,
    ⟨Nat.le_refl _, rfl, rfl, rfl, fun _ _ hn => ⟨rfl, fun c x L h1 h2 h3 => FrF.own hn c x L (Tr.get_del h1).2 h2 h3⟩⟩, Nat.le_refl _, fun _ _ => rfl⟩

/-- A BLOCK GOES ON UNDER A NEW NAME. -/
theorem Post.move {b : Nat} {x y : AObj} {L L' : Loc} {w' : World} (hS : SRel φ st w) (hx : st.heap.get b = some x) (hc : x.isConst = false) (hL : φ b = some L) (hL' : L'.blk = L.blk)
    (hw : w'.heap.size = w.heap.size ∧ w'.os = w.os ∧ w'.tape = w.tape ∧ w'.output = w.output) (ho : ∀ i, i ≠ L.blk → w'.heap[i]? = w.heap[i]?) (hy : ∃ o, w'.heap[L.blk]? = some o ∧ ∀ ψ : Phi, φ.le ψ → ORel ψ L' y o) :
    Post φ st w (φ.add st.next L') ⟨(st.heap.del b).set st.next y, st.next + 1⟩ w' := by
  have hle : φ.le (φ.add st.next L') := Phi.add_le (hS.fresh _ (Nat.le_refl _))
  have other : ∀ c z M, c ≠ b → st.heap.get c = some z → φ c = some M → M.blk ≠ L.blk := fun c z M n h1 h2 e => n (hS.mem.inj c b _ _ M L h1 hx h2 hL e (.inr hc))
  refine ⟨⟨⟨?_, ?_⟩, ?_, fun g hg => hle _ _ (hS.globals g hg)⟩, hle, ⟨by omega, hw.2.1, hw.2.2.1, hw.2.2.2, ?_⟩, Nat.le_succ _, fun b hb => by simp only [Phi.add]; rw [if_neg (Nat.ne_of_lt hb)]⟩
  · intro c d u v M N hb hc hM hN hMN hcon
    rcases Tr.get_set hb with ⟨rfl, _⟩ | ⟨n1, g1⟩ <;> rcases Tr.get_set hc with ⟨rfl, _⟩ | ⟨n2, g2⟩
    · rfl
    · rw [Phi.add_same] at hM
      obtain rfl := Option.some.inj hM
      simp only [Phi.add, if_neg n2] at hN
      exact absurd (hMN.symm.trans hL') (other d _ N (Tr.get_del g2).1 (Tr.get_del g2).2 hN)
    · rw [Phi.add_same] at hN
      obtain rfl := Option.some.inj hN
      simp only [Phi.add, if_neg n1] at hM
      exact absurd (hMN.trans hL') (other c _ M (Tr.get_del g1).1 (Tr.get_del g1).2 hM)
    · simp only [Phi.add, if_neg n1] at hM
      simp only [Phi.add, if_neg n2] at hN
      exact hS.mem.inj c d u v M N (Tr.get_del g1).2 (Tr.get_del g2).2 hM hN hMN hcon
  · intro c z h
    rcases Tr.get_set h with ⟨rfl, rfl⟩ | ⟨n1, g1⟩
    · obtain ⟨o, h1, h2⟩ := hy
      exact ⟨L', Phi.add_same _ _ _, o, by rw [hL']; exact h1, h2 _ hle⟩
    · obtain ⟨n2, g2⟩ := Tr.get_del g1
      obtain ⟨M, h1, o, h2, h3⟩ := hS.mem.obj c z g2
      exact ⟨M, hle _ _ h1, o, by rw [ho _ (other c z M n2 g2 h1)]; exact h2, h3.mono hle⟩
  · intro c hc
    have hc' : st.next + 1 ≤ c := hc
    simp only [Phi.add]
    rw [if_neg (by omega)]
    exact hS.fresh c (by omega)
  · intro i hi hn
    have hne : L.blk ≠ i := hn b x L hx hc hL
    refine ⟨ho i fun e => hne e.symm, fun c z M h1 h3 hk => ?_⟩
    rcases Tr.get_set h1 with ⟨rfl, _⟩ | ⟨n1, g1⟩
    · rw [Phi.add_same] at h3
      obtain rfl := Option.some.inj h3
      rw [hL'] at hk
      exact absurd hk hne
    · simp only [Phi.add, if_neg n1] at h3
      exact FrF.own hn c z M (Tr.get_del g1).2 h3 hk

/-- a new block with room behind -/
theorem room_new {cs rest : List Value} {old : List Value} {e : TypeId} {sz cap n blk : Nat} (fz : Nat × Nat) (hs : 0 < sz) (hl : LRel φ cs old) (hn : cs.length = n * sz) (hc : n ≤ cap) (hr : rest.length = (cap - n) * sz) :
    ∀ ψ : Phi, φ.le ψ → ORel ψ ⟨blk, 0, sz, cap⟩ (.cells cs e sz true fz) (.cells ⟨old ++ rest⟩ e (0, 0)) := by
  intro ψ hle
  have hsz : (old ++ rest).length = cap * sz := by
    rw [List.length_append, ← hl.1, hn, hr, ← Nat.add_mul]
    congr 1
    omega
  have hmul : n * sz ≤ cap * sz := Nat.mul_le_mul_right sz hc
  refine .room (L := ⟨blk, 0, sz, cap⟩) hs (by simp at hsz ⊢; omega) (by simp; omega) ?_ ⟨fun i _ _ h => absurd h (by simp), fun _ h => absurd h (by simp), Nat.le_refl _, fun _ => .inl rfl⟩ ?_
  · intro i v hv
    obtain ⟨v', h1, h2⟩ := hl.get hv
    refine ⟨v', ?_, h2.mono hle⟩
    have hi : i < old.length := by
      rcases Nat.lt_or_ge i old.length with x | x
      · exact x
      · rw [List.getElem?_eq_none x] at h1; cases h1
    simp only [Nat.zero_add]
    show (⟨old ++ rest⟩ : Array Value)[i]? = _
    simp [List.getElem?_append_left hi, h1]
  · intro i hi
    simp only at hi
    refine ⟨_, Array.getElem?_eq_getElem (by simp at hsz ⊢; omega)⟩
end
end Go.Proofs.YtihplijjkcdcjaaGreatDoor.Abs

/-
  Appends: joined.
-/
namespace Go.Proofs.YtihplijjkcdcjaaGreatDoor.Abs
section
variable {P : Program} {φ : Phi} {st : St} {w : World} {β : Type}

/-- an append that made a new block -/
theorem grown_ok (hS : SRel φ st w) {e : TypeId} {sz nm cap d : Nat} {cs old rest : List Value} {fz : Nat × Nat} {k : Value → St → Rs β} {r : β} {s : Sem Value} (hs : 0 < sz) (hl : LRel φ cs old) (hn : cs.length = nm * sz) (hc : nm ≤ cap) (hr : rest.length = (cap - nm) * sz)
    (hrun : s.run P w = .ok (.slice (some ⟨w.heap.size, 0, none⟩) nm cap) { w with heap := w.heap.push (.cells ⟨old ++ rest⟩ e), drawn := d })
    (h : k (.slice (some ⟨st.next, 0, none⟩) nm open_) ⟨st.heap.set st.next (.cells cs e sz true fz), st.next + 1⟩ = .ok r) : Act P φ st w s k r := by
  have hp := Post.newAt hS (.cells cs e sz true fz) (.cells ⟨old ++ rest⟩ e) ⟨w.heap.size, 0, sz, cap⟩ st.next (st.next + 1) d (hS.fresh _ (Nat.le_refl _)) (Nat.le_refl _) (Nat.lt_succ_self _) (Nat.le_succ _) rfl (room_new fz hs hl hn hc hr)
  refine ⟨_, _, _, _, _, hrun, hp, ?_, h⟩
  have := VRel.room (φ := φ.add st.next ⟨w.heap.size, 0, sz, cap⟩) (b := st.next) (n := nm) (c := cap) (j := 0) (L := ⟨w.heap.size, 0, sz, cap⟩) (Phi.add_same _ _ _) hs (by simp) hc
  simpa using this
theorem Act.pre {st' : St} (hp : Post φ st w φ st' w) {s : Sem Value} {k : Value → St → Rs β} {r : β} (h : Act P φ st' w s k r) : Act P φ st w s k r := by
  obtain ⟨v, st2, ψ, v', w', h1, h2, h3, h4⟩ := h
  exact ⟨v, st2, ψ, v', w', h1, hp.trans h2, h3, h4⟩

/-- the setting of an append -/
structure App (P : Program) (ts : Array TypeId) (args : Array Value) (t e : TypeId) (sz b : Nat) (z x' : Value) (n m : Nat) : Prop where
  ht : ts[0]? = some t
  h1 : args[1]? = some x'
  hu : P.underlying t = some (.slice e)
  hs : szT P e = .ok sz
  hb : bytesT P e = .ok b
  hz : zeroT P e = .ok z
  hlen : (cellsOf z).length = sz
  l1 : n + m ≤ 140737488355328
  l3 : (2 * (n + m) + 192) * b ≤ 281474976710656

theorem App.grow {ts : Array TypeId} {args : Array Value} {t ty e : TypeId} {sz b n m c : Nat} {z x' : Value} (A : App P ts args t e sz b z x' n m) (hS : SRel φ st w) {base : Option Addr} {cs nw old new : List Value} {fz : Nat × Nat} {k : Value → St → Rs β} {r : β}
    (h0 : args[0]? = some (.slice base n c)) (hx : Src P w ts sz b z x' m new) (hnew : LRel φ nw new) (hnl : nw.length = m * sz) (hc : c < n + m) (ho : ∀ d, (Builtin.firstCells sz n (.slice base n c)).run P { w with drawn := d } = .ok ⟨old⟩ { w with drawn := d })
    (hold : LRel φ cs old) (hol : cs.length = n * sz) (hs : 0 < sz)
    (h : k (.slice (some ⟨st.next, 0, none⟩) (n + m) open_) ⟨st.heap.set st.next (.cells (cs ++ nw) e sz true fz), st.next + 1⟩ = .ok r) : Act P φ st w (Builtin.append_ ts ty args) k r := by
  obtain ⟨cap, k1, k2⟩ := app_grow (ty := ty) A.ht h0 A.h1 A.hu A.hs A.hb A.hz A.hlen hx hc ho A.l1 A.l3
  exact grown_ok (d := w.drawn + 1) hS hs (hold.append hnew) (by rw [List.length_append, hol, hnl, Nat.add_mul]) k1 (rest := reps (cellsOf z) (cap - (n + m))) (by rw [reps_length, A.hlen]) k2 h
theorem App.stay {ts : Array TypeId} {args : Array Value} {t ty e : TypeId} {sz b n m c : Nat} {z x' : Value} (A : App P ts args t e sz b z x' n m) {base : Option Addr} {new : List Value} (h0 : args[0]? = some (.slice base n c)) (hx : Src P w ts sz b z x' m new) (hc : n + m ≤ c) {w' : World}
    (hw : (putAt base (n * sz) new).run P w = .ok () w') : (Builtin.append_ ts ty args).run P w = .ok (.slice base (n + m) c) w' :=
  app_stay A.ht h0 A.h1 A.hu A.hs A.hb A.hz A.hlen hx hc hw

theorem opened_pos {e : TypeId} {s n : Nat} {cs : List Value} {k : Value → St → Rs β} {r : β} (h : opened st e s n cs k = .ok r) : 0 < s ∧ k (.slice (some ⟨st.next, 0, none⟩) n open_) ⟨st.heap.set st.next (.cells cs e s true (0, 0)), st.next + 1⟩ = .ok r := by
  unfold opened at h
  obtain ⟨h1, h2⟩ := ifb_no' h
  rw [St.new_eq] at h2
  refine ⟨?_, h2⟩
  rcases Nat.eq_zero_or_pos s with x | x
  · subst x; cases h1
  · exact x

/-- in place, or to a new block: the old one is forgotten -/
theorem appOpen_ok {ts : Array TypeId} {args : Array Value} {t ty e : TypeId} {sz b n m c : Nat} {z x' : Value} (A : App P ts args t e sz b z x' n m) (hS : SRel φ st w) {blk j : Nat} {L : Loc} {nw new : List Value} {k : Value → St → Rs β} {r : β}
    (hL : φ blk = some L) (hcap : j + c = L.cap) (h0 : args[0]? = some (.slice (some ⟨L.blk, L.base + j * L.s, none⟩) n c)) (hx : Src P w ts sz b z x' m new) (hnew : LRel φ nw new) (hnl : nw.length = m * sz)
    (h : appOpen st e sz blk (j * L.s) n m nw k (st.heap.get blk) = .ok r) : Act P φ st w (Builtin.append_ ts ty args) k r := by
  unfold appOpen at h
  split at h <;> first | (cases h; done) | skip
  rename_i l e' s' fz hb
  obtain ⟨h1, h2⟩ := ifb_no h
  simp only [Bool.and_eq_true] at h1
  obtain rfl := Nat.eq_of_beq_eq_true h1.1.1
  obtain rfl := Nat.eq_of_beq_eq_true h1.1.2
  obtain ⟨o, hw, hO⟩ := hS.mem.objAt hb hL
  cases hO with
  | @room _ _ _ fr cc hs hn hl hc hf ho =>
  unfold appOpen2 at h2
  have hcs : j * L.s + c * L.s = L.cap * L.s := by rw [← Nat.add_mul, hcap]
  have haddr : (⟨L.blk, L.base + j * L.s, none⟩ : Addr).add (n * L.s) = ⟨L.blk, L.base + (j * L.s + n * L.s), none⟩ := by rw [add_none, Nat.add_assoc]
  rcases ifb_ok h2 with ⟨c1, c2⟩ | ⟨c1, c2⟩
  · have c1' : j * L.s + (n + m) * L.s ≤ l.length := by rw [← lenN_eq]; simpa using c1
    have hfit : n + m ≤ c := by
      have : (n + m) * L.s ≤ c * L.s := by omega
      exact Nat.le_of_mul_le_mul_right this hs
    obtain ⟨st', w', r1, r2, r3, _⟩ := turn_ok (P := P) hS hL c2 hnew
    refine ⟨_, st', φ, _, w', A.stay h0 hx hfit ?_, r2, VRel.room hL hs hcap hfit, r3⟩
    show (storeCells ((⟨L.blk, L.base + j * L.s, none⟩ : Addr).add (n * L.s)) new).run P w = _
    rw [haddr]
    exact r1
  · obtain ⟨c3, c4⟩ := ifb_no c2
    obtain ⟨c5, c6⟩ := ifb_no c4
    obtain ⟨old, hcut, c7⟩ := Rs.bind_ok c6
    rw [St.kill_eq, St.new_eq] at c7
    have hcut' := Rs.of_ok hcut
    obtain ⟨hlen, hold⟩ := cutN_some hcut'
    have hol : old.length = n * L.s := by
      rw [hold, List.length_take, List.length_drop]
      omega
    obtain ⟨olds, ho1, ho2⟩ := load_any (P := P) rfl rfl hw hc hcut'
    by_cases hfit : n + m ≤ c
    · -- in place
      have hmul : (n + m) * L.s ≤ c * L.s := Nat.mul_le_mul_right _ hfit
      rw [Nat.add_mul] at hmul
      have hnl' : new.length = m * L.s := by rw [← hnew.1]; exact hnl
      have h1c : ∀ v ∈ new, v.oneCell' = true := by
        intro v hm
        obtain ⟨i, hi⟩ := List.mem_iff_getElem?.1 hm
        have hlt : i < nw.length := by
          rcases Nat.lt_or_ge i new.length with x | x
          · omega
          · rw [List.getElem?_eq_none x] at hi; cases hi
        exact (hnew.2 i _ v (List.getElem?_eq_getElem hlt) hi).one (List.all_eq_true.1 c5 _ (List.getElem_mem hlt))
      have hfz : (fz.1 = 0 ∧ fz.2 = 0) ∨ (fz.1 = open_ ∧ fz.2 = open_) ∨ (j * L.s = 0 ∧ fz.2 ≤ n) := by
        simp only [Bool.or_eq_true, Bool.and_eq_true] at c3
        rcases c3 with (⟨x, y⟩ | ⟨x, y⟩) | ⟨x, y⟩
        · exact .inl ⟨Nat.eq_of_beq_eq_true x, Nat.eq_of_beq_eq_true y⟩
        · exact .inr (.inl ⟨Nat.eq_of_beq_eq_true x, Nat.eq_of_beq_eq_true y⟩)
        · exact .inr (.inr ⟨Nat.eq_of_beq_eq_true x, by simpa using y⟩)
      have hns : n ≤ n * L.s := Nat.le_mul_of_pos_right n hs
      have hfr : ∀ i, 0 ≤ i → i < 0 + new.length → ¬ (fr.1 ≤ L.base + (j * L.s + n * L.s) + i ∧ L.base + (j * L.s + n * L.s) + i < fr.2) := by
        rintro i _ hi ⟨f1, f2⟩
        have := hf.1 (j * L.s + n * L.s + i) (by omega) (by omega) (by omega)
        rcases hfz with ⟨x, y⟩ | ⟨x, y⟩ | ⟨x, y⟩ <;> omega
      obtain ⟨c', r1, r2⟩ := run_store_list (P := P) L.blk (L.base + (j * L.s + n * L.s)) e fr new 0 w cc hw h1c (by omega) hfr
      simp only [Nat.add_zero] at r2
      have hbs : L.blk < w.heap.size := (Array.getElem?_eq_some_iff.1 hw).1
      have hc'sz : c'.size = cc.size := by
        have := congrArg List.length r2
        simp at this
        omega
      have hcells : ∀ i v, (old ++ nw)[i]? = some v → ∃ v', c'[L.base + j * L.s + i]? = some v' ∧ VRel φ v v' := by
        intro i v hi
        have hg : c'[L.base + j * L.s + i]? = (cc.toList.take (L.base + (j * L.s + n * L.s)) ++ (new ++ cc.toList.drop (L.base + (j * L.s + n * L.s) + new.length)))[L.base + j * L.s + i]? := by rw [← r2]; simp
        rw [hg]
        have htl : (cc.toList.take (L.base + (j * L.s + n * L.s))).length = L.base + (j * L.s + n * L.s) := by simp; omega
        by_cases hi1 : i < n * L.s
        · rw [List.getElem?_append_left (by omega)] at hi
          rw [List.getElem?_append_left (by omega), List.getElem?_take, if_pos (by omega)]
          rw [hold, List.getElem?_take, if_pos hi1, List.getElem?_drop] at hi
          obtain ⟨v', x, y⟩ := hc _ v hi
          exact ⟨v', by rw [← Nat.add_assoc] at x; simpa using x, y⟩
        · rw [List.getElem?_append_right (by omega), hol] at hi
          rw [List.getElem?_append_right (by omega), htl]
          have hi2 : i - n * L.s < nw.length := by
            rcases Nat.lt_or_ge (i - n * L.s) nw.length with x | x
            · exact x
            · rw [List.getElem?_eq_none x] at hi; cases hi
          rw [List.getElem?_append_left (by rw [← hnew.1]; omega), show L.base + j * L.s + i - (L.base + (j * L.s + n * L.s)) = i - n * L.s by omega]
          exact hnew.get hi
      let L' : Loc := ⟨L.blk, L.base + j * L.s, L.s, c⟩
      have hO' : ∀ ψ : Phi, φ.le ψ → ORel ψ L' (.cells (old ++ nw) e L.s true fz) (.cells c' e fr) := by
        intro ψ hle
        refine .room (L := L') hs (by show L.base + j * L.s + c * L.s ≤ c'.size; omega) (by show (old ++ nw).length ≤ c * L.s; rw [List.length_append]; omega) (fun i v hi => ?_) ⟨?_, ?_, hf.2.2.1, ?_⟩ fun i hi => ?_
        · obtain ⟨v', x, y⟩ := hcells i v hi
          exact ⟨v', x, y.mono hle⟩
        · intro i hi f1 f2
          have hi' : i < c * L.s := hi
          have f1' : fr.1 ≤ L.base + j * L.s + i := f1
          have f2' : L.base + j * L.s + i < fr.2 := f2
          have := hf.1 (j * L.s + i) (by omega) (by omega) (by omega)
          rcases hfz with ⟨x, y⟩ | ⟨x, y⟩ | ⟨x, y⟩ <;> omega
        · intro f0 f1
          show L.base + j * L.s + fz.1 ≤ fr.1 ∧ fr.2 ≤ L.base + j * L.s + fz.2
          have := hf.2.1 f0 f1
          rcases hfz with ⟨x, y⟩ | ⟨x, y⟩ | ⟨x, y⟩ <;> omega
        · intro f0
          rcases hf.2.2.2 f0 with f1 | f1
          · exact .inl f1
          · exact .inr (by show L.base + j * L.s + c * L.s ≤ fr.1; omega)
        · have hi' : i < c * L.s := hi
          exact ⟨_, Array.getElem?_eq_getElem (by show L.base + j * L.s + i < c'.size; omega)⟩
      have hp := Post.move (L' := L') (w' := { w with heap := w.heap.setIfInBounds L.blk (.cells c' e fr) }) hS hb rfl hL rfl ⟨by simp, rfl, rfl, rfl⟩ (fun i hi => Array.getElem?_setIfInBounds_ne (fun e => hi e.symm)) ⟨.cells c' e fr, by simp [hbs], hO'⟩
      refine ⟨_, _, _, _, _, A.stay h0 hx hfit ?_, hp, ?_, c7⟩
      · show (storeCells ((⟨L.blk, L.base + j * L.s, none⟩ : Addr).add (n * L.s)) new).run P w = _
        rw [haddr]
        exact r1
      · have := VRel.room (φ := φ.add st.next L') (b := st.next) (n := n + m) (c := c) (j := 0) (L := L') (Phi.add_same _ _ _) hs (by simp [L']) hfit
        simpa [L', sliceTo] using this
    · exact Act.pre (Post.kill hS blk) (A.grow (Post.kill hS blk).rel h0 hx hnew hnl (by omega) ho1 ho2 hol hs c7)

/-- an append to the end of a block with room -/
theorem appFull_ok {ts : Array TypeId} {args : Array Value} {t ty e : TypeId} {sz b m o : Nat} {z x' : Value} (A : App P ts args t e sz b z x' 0 m) (hS : SRel φ st w) {blk : Nat} {L : Loc} {a : Addr} {nw new : List Value} {k : Value → St → Rs β} {r : β}
    (hL : φ blk = some L) (hO : o = L.cap * L.s) (hm : 0 < m) (h0 : args[0]? = some (.slice (some a) 0 0)) (hx : Src P w ts sz b z x' m new) (hnew : LRel φ nw new) (hnl : nw.length = m * sz)
    (h : appOpen st e sz blk o 0 m nw k (st.heap.get blk) = .ok r) : Act P φ st w (Builtin.append_ ts ty args) k r := by
  unfold appOpen at h
  split at h <;> first | (cases h; done) | skip
  rename_i l e' s' fz hb
  obtain ⟨h1, h2⟩ := ifb_no h
  simp only [Bool.and_eq_true] at h1
  obtain rfl := Nat.eq_of_beq_eq_true h1.1.1
  obtain rfl := Nat.eq_of_beq_eq_true h1.1.2
  obtain ⟨ob, hw, hR⟩ := hS.mem.objAt hb hL
  cases hR with
  | @room _ _ _ fr cc hs hn hl hc hf ho =>
  unfold appOpen2 at h2
  rcases ifb_ok h2 with ⟨c1, c2⟩ | ⟨c1, c2⟩
  · have c1' : o + (0 + m) * L.s ≤ l.length := by rw [← lenN_eq]; simpa using c1
    have : 0 < (0 + m) * L.s := Nat.mul_pos (by omega) hs
    omega
  · obtain ⟨c3, c4⟩ := ifb_no c2
    obtain ⟨c5, c6⟩ := ifb_no c4
    obtain ⟨old, hcut, c7⟩ := Rs.bind_ok c6
    rw [St.kill_eq, St.new_eq] at c7
    obtain ⟨hlen, hold⟩ := cutN_some (Rs.of_ok hcut)
    have hol : old = [] := by rw [hold]; simp
    refine Act.pre (Post.kill hS blk) (A.grow (Post.kill hS blk).rel h0 hx hnew hnl (by omega) (old := []) (cs := old) (fun d => ?_) (by rw [hol]; exact .nil φ) (by rw [hol]; simp) hs c7)
    unfold Builtin.firstCells
    simp only [Nat.zero_mul]
    rfl

theorem aAppend_ok (hS : SRel φ st w) {ts : Array TypeId} {ty : TypeId} {args : Array Value} {s x s' x' : Value} {k : Value → St → Rs β} {r : β} (h : aAppend P st ts.toList s x k = .ok r) (h0 : args[0]? = some s') (h1 : args[1]? = some x') (hs : VRel φ s s') (hx : VRel φ x x') :
    Act P φ st w (Builtin.append_ ts ty args) k r := by
  unfold aAppend at h
  split at h <;> first | (cases h; done) | skip
  rename_i t xt hts
  obtain ⟨u, hu, e1⟩ := Rs.bind_ok h
  split at e1 <;> first | (cases e1; done) | skip
  rename_i e
  obtain ⟨sz, hsz, e2⟩ := Rs.bind_ok e1
  obtain ⟨b, hb, e3⟩ := Rs.bind_ok e2
  obtain ⟨z, hz, e4⟩ := Rs.bind_ok e3
  obtain ⟨⟨m, nw⟩, hq, e5⟩ := Rs.bind_ok e4
  obtain ⟨h2, h3⟩ := ifb_no e5
  simp only [Bool.and_eq_true] at h2
  have hlen : (cellsOf z).length = sz := by rw [← lenN_eq]; exact Nat.eq_of_beq_eq_true h2.2
  have ht : ts[0]? = some t := by
    have : ts[0]? = ts.toList[0]? := by simp
    rw [this, hts]; rfl
  obtain ⟨base0, n, c0, rfl⟩ : ∃ base0 n c0, s = .slice base0 n c0 := by
    have := h2.1
    unfold appLim at this
    split at this
    · exact ⟨_, _, _, rfl⟩
    · cases this
  have hlim := h2.1
  unfold appLim at hlim
  simp only [Bool.and_eq_true, Nat.ble_eq] at hlim
  have A : App P ts args t e sz b z x' n m := ⟨ht, h1, undT_ok hu, hsz, hb, hz, hlen, hlim.1, hlim.2⟩
  have hmb : m * b ≤ 281474976710656 := Nat.le_trans (Nat.mul_le_mul_right b (by omega)) hlim.2
  obtain ⟨new, hsrc, hnew, hnl⟩ := appSrc_ok (P := P) hS.mem (zeroT_ok hz).2 hts hq hmb hlen hx
  simp only at h3
  rcases ifb_ok h3 with ⟨c1, c2⟩ | ⟨c1, c2⟩
  · have hm : m = 0 := Nat.eq_of_beq_eq_true c1
    subst hm
    have hn0 : new = [] := by
      have := hnew.1
      rw [hnl, Nat.zero_mul] at this
      exact List.eq_nil_of_length_eq_zero this.symm
    subst hn0
    have fin : ∀ base c, s' = .slice base n c → n ≤ c → Act P φ st w (Builtin.append_ ts ty args) k r := by
      intro base c hs' hc
      subst hs'
      refine ⟨_, st, φ, _, w, A.stay h0 hsrc hc (w' := w) (by cases base <;> rfl), .refl hS, ?_, c2⟩
      exact hs
    cases hs with
    | nilSlice => exact fin _ _ rfl (Nat.le_refl _)
    | slice o hL hc hn => exact fin _ _ rfl hn
    | room hL hs hc hn => exact fin _ _ rfl hn
    | full a hL ho => exact fin _ _ rfl (Nat.le_refl _)
  · have hm : 0 < m := by
      rcases Nat.eq_zero_or_pos m with x | x
      · subst x; cases c1
      · exact x
    unfold appTo at c2
    cases hs with
    | nilSlice =>
      simp only at c2
      obtain ⟨p1, p2⟩ := opened_pos c2
      refine A.grow hS h0 hsrc hnew hnl (by omega) (old := []) (cs := []) (fun d => rfl) (.nil φ) (by simp) p1 (by simpa using p2)
    | @slice _ _ _ L o hL hc hn =>
      simp only at c2
      rcases ifb_ok c2 with ⟨d1, d2⟩ | ⟨d1, d2⟩
      · rcases ifb_ok d2 with ⟨f1, f2⟩ | ⟨f1, f2⟩
        · have hfit : n + m ≤ c0 := by simpa using f1
          obtain ⟨st', w', r1, r2, r3, _⟩ := turn_ok (P := P) hS hL f2 hnew
          refine ⟨_, st', φ, _, w', A.stay h0 hsrc hfit ?_, r2, .slice o hL hc hfit, r3⟩
          show (storeCells ((⟨L.blk, L.base + o, none⟩ : Addr).add (n * sz)) new).run P w = _
          rw [add_none, Nat.add_assoc]
          exact r1
        · have hfit : ¬ n + m ≤ c0 := by
            intro hh
            rw [Nat.ble_eq_true_of_le hh] at f1
            cases f1
          obtain ⟨⟨n', cs⟩, g1, g2⟩ := Rs.bind_ok f2
          have hn' := srcCells_n g1
          simp only at hn'
          subst hn'
          obtain ⟨p1, p2⟩ := opened_pos g2
          obtain ⟨k1, k2⟩ := srcCells_ok (P := P) hS.mem g1 (.slice o hL hc hn)
          obtain ⟨old, k3, k4⟩ := k2 _ (Nat.le_refl _)
          have hcl := srcCells_len g1
          rw [List.take_of_length_le (by omega)] at k4
          exact A.grow hS h0 hsrc hnew hnl (by omega) k3 k4 hcl p1 p2
      · have : ¬ c0 < open_ := by
          intro hh
          have : Nat.blt c0 open_ = true := by simpa using hh
          rw [this] at d1
          cases d1
        exact absurd hc this
    | @room _ _ c j L hL hs hc hn =>
      simp only at c2
      rcases ifb_ok c2 with ⟨d1, d2⟩ | ⟨d1, d2⟩
      · have : Nat.blt open_ open_ = true := d1
        simp at this
      · exact appOpen_ok A hS hL hc h0 hsrc hnew hnl d2
    | full a hL ho =>
      simp only at c2
      rcases ifb_ok c2 with ⟨d1, d2⟩ | ⟨d1, d2⟩
      · have : Nat.blt open_ open_ = true := d1
        simp at this
      · exact appFull_ok A hS hL ho hm h0 hsrc hnew hnl d2
end
end Go.Proofs.YtihplijjkcdcjaaGreatDoor.Abs

/-
  Clear, the data of a slice, bytes as a string.
-/
namespace Go.Proofs.YtihplijjkcdcjaaGreatDoor.Abs
section
variable {P : Program} {φ : Phi} {st : St} {w : World} {β : Type}

theorem und_rel : VRel φ undefV (.tuple #[]) := .tuple rfl fun i v v' a => by simp at a

theorem eClear_ok (hS : SRel φ st w) {ts : Array TypeId} {t ty : TypeId} {args : Array Value} {x x' : Value} {k : Value → St → Rs β} {r : β} (ht : ts[0]? = some t) (h : eClear P st t x k = .ok r) (h0 : args[0]? = some x') (hx : VRel φ x x') :
    Act P φ st w (Builtin.clear_ ts ty args) k r := by
  unfold eClear at h
  obtain ⟨u, hu, h1⟩ := Rs.bind_ok h
  have nothing : k undefV st = .ok r → (Builtin.clear_ ts ty args).run P w = .ok (.tuple #[]) w → Act P φ st w (Builtin.clear_ ts ty args) k r :=
    fun a b => ⟨_, st, φ, _, w, b, .refl hS, und_rel, a⟩
  split at h1 <;> first | (cases h1; done) | skip
  · refine nothing h1 ?_
    unfold Builtin.clear_
    rw [ht, h0]
    cases hx
    simp only [Sem.run_bind, undT_run hu, Result.andThen_ok, Sem.run_pure]
  · refine nothing h1 ?_
    unfold Builtin.clear_
    rw [ht, h0]
    cases hx <;> simp only [Sem.run_bind, undT_run hu, Result.andThen_ok, Sem.run_pure]
  · rename_i e b o n c hn
    obtain ⟨z, hz, h2⟩ := Rs.bind_ok h1
    obtain ⟨z1, z2⟩ := zeroT_ok hz
    have hn0 : n ≠ 0 := by
      rintro rfl
      exact hn rfl
    have fin : ∀ L c', φ b = some L → x' = .slice (some ⟨L.blk, L.base + o, none⟩) n c' → Act P φ st w (Builtin.clear_ ts ty args) k r := by
      intro L c' hL hx'
      subst hx'
      obtain ⟨st', w', r1, r2, r3, _⟩ := turn_ok (P := P) hS hL h2 (reps_rel z2 n)
      refine ⟨_, st', φ, _, w', ?_, r2, und_rel, r3⟩
      unfold Builtin.clear_
      rw [ht, h0]
      cases n with
      | zero => exact absurd rfl hn0
      | succ n =>
        simp only [Sem.run_bind, undT_run hu, Result.andThen_ok, Sem.run_pure, z1, zeroCells_eq z2]
        rw [r1]
        rfl
    cases hx with
    | slice o hL => exact fin _ _ hL rfl
    | room hL => exact fin _ _ hL rfl
    | full => exact absurd rfl hn0
  · split at h1 <;> first | (cases h1; done) | skip
    rename_i clock hb
    rw [St.put_eq] at h1
    cases hx with
    | @map _ L hL =>
      obtain ⟨fs, hw, hE⟩ := mapAtL hS hb hL
      have nc : ∀ c e fr, Obj.map ⟨fs⟩ clock ≠ .cells c e fr := fun _ _ _ e => by cases e
      have hp := Post.put (y := .map [] clock) (q := .map #[] clock) hS hb rfl hL hw (EsR.nil.obj L clock)
      refine ⟨_, _, φ, _, _, ?_, hp, und_rel, h1⟩
      unfold Builtin.clear_
      rw [ht, h0]
      simp only [Sem.run_bind, undT_run hu, Result.andThen_ok, Sem.run_pure, run_getObj hw nc, run_setObj hw nc]

theorem eSliceData_ok (hS : SRel φ st w) {ts : Array TypeId} {ty : TypeId} {x x' : Value} {k : Value → St → Rs β} {r : β} (h : eSliceData st x k = .ok r) (hx : VRel φ x x') : Act P φ st w (Builtin.unsafeSliceData_ ts ty #[x']) k r := by
  unfold eSliceData at h
  split at h <;> first | (cases h; done) | skip
  · cases hx
    exact ⟨_, st, φ, _, w, rfl, .refl hS, .nilPtr, h⟩
  · rename_i a n c
    obtain ⟨h1, h2⟩ := ifb_no' h
    have hn : n ≠ 0 := by rintro rfl; cases h1
    have fin : ∀ a' c', c' ≠ 0 → (Builtin.unsafeSliceData_ ts ty #[.slice (some a') n c']).run P w = .ok (.pointer (some a')) w := by
      intro a' c' hc
      show Sem.run P (if c' ≠ 0 then pure (Value.pointer (some a')) else _) w = _
      rw [if_pos hc]
      rfl
    cases hx with
    | slice o hL hc hle => exact ⟨_, st, φ, _, w, fin _ _ (by omega), .refl hS, .ptr o hL, h2⟩
    | room hL hs hc hle => exact ⟨_, st, φ, _, w, fin _ _ (by omega), .refl hS, .ptr _ hL, h2⟩
    | full => exact absurd rfl hn

theorem freeze_eq {b : Nat} {c : Array Value} {e : TypeId} {fr : Nat × Nat} (hw : w.heap[b]? = some (.cells c e fr)) (o n : Nat) (hn : n ≠ 0) :
    w.freeze ⟨b, o, none⟩ n = { w with heap := w.heap.setIfInBounds b (.cells c e (if fr.1 = fr.2 then (o, o + n) else (min fr.1 o, max fr.2 (o + n)))) } := by
  unfold World.freeze
  rw [if_neg hn]
  congr 1
  apply Array.ext_getElem?
  intro i
  rw [Array.getElem?_modify, Array.getElem?_setIfInBounds]
  have hb : b < w.heap.size := (Array.getElem?_eq_some_iff.1 hw).1
  by_cases hi : b = i
  · subst hi
    rw [if_pos rfl, if_pos rfl, if_pos hb, hw]
    simp only [Option.map_some, beq_iff_eq]
  · rw [if_neg hi, if_neg hi]

/-- a block's frozen part grows -/
theorem Post.ice {b : Nat} {l : List Value} {e : TypeId} {s o n : Nat} {opn : Bool} {fz fz' : Nat × Nat} {L : Loc} {c : Array Value} {fr : Nat × Nat} (hS : SRel φ st w) (hb : st.heap.get b = some (.cells l e s opn fz)) (hL : φ b = some L) (hw : w.heap[L.blk]? = some (.cells c e fr)) (hn : n ≠ 0)
    (hf : ∀ m, m + L.base ≤ c.size → (opn = false → m = l.length) → FrozenAt L m fz fr → FrozenAt L m fz' (if fr.1 = fr.2 then (o, o + n) else (min fr.1 o, max fr.2 (o + n)))) :
    Post φ st w φ ⟨st.heap.set b (.cells l e s opn fz'), st.next⟩ (w.freeze ⟨L.blk, o, none⟩ n) := by
  rw [freeze_eq hw o n hn]
  have hbs : L.blk < w.heap.size := (Array.getElem?_eq_some_iff.1 hw).1
  obtain ⟨ob, h1, h2⟩ := hS.mem.objAt hb hL
  rw [hw] at h1
  cases h1
  refine Post.turn hS hb rfl hL ⟨by simp, rfl, rfl, rfl⟩ (fun i hi => Array.getElem?_setIfInBounds_ne (fun e => hi e.symm)) ⟨.cells c e _, by simp [hbs]; rfl, ?_⟩
  cases h2 with
  | closed hb' hn hc hf' => exact .closed hb' hn hc (hf _ (by omega) (fun _ => rfl) hf')
  | room hs hn hl hc hf' ho => exact .room hs hn hl hc (hf _ (by omega) (fun x => by cases x) hf') ho

theorem eBytes_ok (hS : SRel φ st w) {t e : TypeId} {a a' : Value} {k : Value → St → Rs β} {r : β} (ht : P.underlying t = some (.slice e)) (he : P.underlying e = some (.int .u8)) (h : eBytes st a k = .ok r) (ha : VRel φ a a') : Act P φ st w (convert t t a') k r := by
  unfold eBytes at h
  split at h <;> first | (cases h; done) | skip
  rename_i b o n cp
  split at h <;> first | (cases h; done) | skip
  rename_i l e' s opn fz hb
  obtain ⟨h1', h2⟩ := ifb_no h
  rw [St.put_eq] at h2
  obtain ⟨h1, hn⟩ := Bool.and_eq_true_iff.1 h1'
  have hn0 : n ≠ 0 := by rintro rfl; cases hn
  have hfz : (fz.1 = 0 ∧ fz.2 = 0) ∨ fz.1 = open_ := by
    simp only [Bool.or_eq_true, Bool.and_eq_true] at h1
    rcases h1 with ⟨x, y⟩ | x
    · exact .inl ⟨Nat.eq_of_beq_eq_true x, Nat.eq_of_beq_eq_true y⟩
    · exact .inr (Nat.eq_of_beq_eq_true x)
  have fin : ∀ L o' n' c', φ b = some L → a' = .slice (some ⟨L.blk, o', none⟩) n' c' → VRel φ (.slice (some ⟨b, o, none⟩) n cp) a' → Act P φ st w (convert t t a') k r := by
    intro L o' n' c' hL ha' hv
    subst ha'
    obtain ⟨c, fr, hw, _⟩ := hS.mem.cellsAt hb hL
    have hp := Post.ice (o := c.size) (n := 1) (fz' := (open_, open_)) hS hb hL hw (by decide) (by
      intro m hm _ hf
      obtain ⟨f1, f2, f3, f4⟩ := hf
      have key : L.base + m ≤ (if fr.1 = fr.2 then (c.size, c.size + 1) else (min fr.1 c.size, max fr.2 (c.size + 1))).1 := by
        split
        · simp only; omega
        · rename_i hne
          simp only
          rcases hfz with ⟨x, y⟩ | x
          · have := f2 (by rw [x]; decide) (by omega)
            omega
          · rcases f4 x with y | y <;> omega
      refine ⟨fun i hi g1 g2 => by omega, fun g => absurd g (by decide), ?_, fun _ => .inr key⟩
      split
      · simp
      · simp only; omega)
    refine ⟨_, _, φ, _, _, ?_, hp, hv, h2⟩
    unfold convert
    simp only [Sem.run_bind, run_underlying ht, Result.andThen_ok, run_underlying he, beq_self_eq_true]
    unfold markStringish
    simp only [Sem.run_bind, run_shape, shape_of hw, Result.andThen_ok, run_freeze, Sem.run_pure]
  have ha0 := ha
  cases ha with
  | slice o hL => exact fin _ _ _ _ hL rfl ha0
  | room hL => exact fin _ _ _ _ hL rfl ha0
  | full a hL ho => exact absurd rfl hn0

theorem byteT_ok {e : TypeId} (h : byteT P e = .ok true) : P.underlying e = some (.int .u8) ∧ P.cellsOf e = 1 := by
  unfold byteT at h
  obtain ⟨u, hu, h1⟩ := Rs.bind_ok h
  split at h1
  · obtain ⟨s, h2, h3⟩ := Rs.bind_ok h1
    cases hs : Nat.beq s 1 with
    | false => rw [hs] at h3; cases h3
    | true =>
      have := Nat.eq_of_beq_eq_true hs
      subst this
      exact ⟨undT_ok hu, szT_cells h2⟩
  · cases h1
theorem lies {e u : TypeId} (he : P.underlying e = some (.int .u8)) (hs : P.cellsOf e = 1) (hu : P.underlying u = some (.int .u8)) {count off n : Nat} (h : off + n ≤ count) : liesAt P P.depth e (count / P.cellsOf e) off u n = true := by
  have hd : P.depth = (2 * (P.types.size + Made.depth) + 1) + 1 := rfl
  have hsl : sameLayout P P.depth e u = true := by
    rw [hd]
    unfold sameLayout
    rw [he, hu]
    simp
  have hrow : rowAt P (fun t => sameLayout P P.depth t u) P.depth e (count / P.cellsOf e) off n = true := by
    rw [hs, hd]
    unfold rowAt
    rw [hs]
    simp only [Nat.one_ne_zero, if_false, Nat.mod_one, Nat.div_one]
    rw [← hd, hsl]
    simp [h]
  rw [hd]
  unfold liesAt
  rw [hrow]
  rfl
theorem run_loadBytes {b : Nat} {c : Array Value} {e : TypeId} {fr : Nat × Nat} (hw : w.heap[b]? = some (.cells c e fr)) : ∀ {ns : List Int} {o : Nat} (acc : ByteArray), (∀ i, i < ns.length → c[o + i]? = some (.int .u8 (ns[i]?.getD 0))) →
    (loadBytes ⟨b, o, none⟩ acc ns.length).run P w = .ok ⟨⟨acc.data.toList ++ ns.map fun n => UInt8.ofNat n.toNat⟩⟩ w
  | [], o, acc, _ => by simp [loadBytes]
  | n :: ns, o, acc, h => by
    have h0 := h 0 (by simp)
    simp only [Nat.add_zero, List.getElem?_cons_zero, Option.getD_some] at h0
    simp only [List.length_cons, loadBytes, Sem.run_bind, run_load, cell_of hw, h0, Result.andThen_ok]
    rw [add_none, run_loadBytes hw (acc.push n.toNat.toUInt8) (fun i hi => by
      have := h (i + 1) (by simp; omega)
      rw [show o + 1 + i = o + (i + 1) by omega, this]
      simp)]
    simp [ByteArray.push]

theorem eString_ok (hS : SRel φ st w) {ts : Array TypeId} {ty : TypeId} {p n p' n' : Value} {k : Value → St → Rs β} {r : β} (h : eString P st ts p n k = .ok r) (hp : VRel φ p p') (hn : VRel φ n n') : Act P φ st w (Builtin.unsafeString_ ts ty #[p', n']) k r := by
  unfold eString at h
  obtain ⟨tb, htb, h1⟩ := Rs.bind_ok h
  unfold ptrByteT at htb
  obtain ⟨t, ht, h2⟩ := Rs.bind_ok htb
  have ht0 : ts[0]? = some t := by
    have := Rs.of_ok ht
    rw [List.head?_eq_getElem?] at this
    simpa using this
  obtain ⟨u, hu, h3⟩ := Rs.bind_ok h2
  split at h1 <;> first | (cases h1; done) | skip
  · cases hp
    cases hn
    refine ⟨_, st, φ, _, w, ?_, .refl hS, .string _, h1⟩
    show Sem.run P (asInt (Value.int _ (Int.ofNat 0)) >>= _) w = _
    simp [asInt, asIntOf, ht0]
    rfl
  · rename_i kk
    cases hn
    have fin : ∀ a, p' = .pointer (some a) → Act P φ st w (Builtin.unsafeString_ ts ty #[p', .int kk (Int.ofNat 0)]) k r := by
      intro a ha
      subst ha
      refine ⟨_, st, φ, _, w, ?_, .refl hS, .string _, h1⟩
      show Sem.run P (asInt (Value.int kk (Int.ofNat 0)) >>= _) w = _
      simp [asInt, asIntOf, ht0]
      rfl
    cases hp
    exact fin _ rfl
  · rename_i b kk m hm0
    split at h1 <;> first | (cases h1; done) | skip
    rename_i l e s opn hi hb
    obtain ⟨eb, heb, h4⟩ := Rs.bind_ok h1
    obtain ⟨h5, h6⟩ := ifb_no h4
    obtain ⟨bs, hbs, h7⟩ := Rs.bind_ok h6
    rw [St.put_eq] at h7
    simp only [Bool.and_eq_true, Nat.ble_eq] at h5
    obtain ⟨⟨rfl, rfl⟩, hmle⟩ := h5
    obtain ⟨he, hes⟩ := byteT_ok heb
    have hm : m ≠ 0 := by
      rintro rfl
      exact hm0 rfl
    split at h3 <;> first | (cases h3; done) | skip
    rename_i ue
    obtain ⟨hue, _⟩ := byteT_ok h3
    cases hn
    cases hp with
    | @ptr _ L _ hL =>
      obtain ⟨c, fr, hw, hc, hfz, hcl, hop⟩ := hS.mem.cellsAt hb hL
      have hbs' := Rs.of_ok hbs
      rw [takeN_eq] at hbs'
      split at hbs' <;> first | (cases hbs'; done) | skip
      rename_i hml
      have hbs2 : cellBytes (l.take m) = some bs := hbs'
      obtain ⟨g1, g2⟩ := cellBytes_some hbs2
      have hlen : (l.take m).length = m := by simp; omega
      let ns : List Int := (l.take m).map fun v => match v with | .int _ n => n | _ => 0
      have hns : ns.length = m := by simp [ns]; omega
      have hcell : ∀ i, i < ns.length → c[L.base + 0 + i]? = some (.int .u8 (ns[i]?.getD 0)) := by
        intro i hi
        have hi' : i < (l.take m).length := by omega
        obtain ⟨n, e1, e2⟩ := g2 i _ (List.getElem?_eq_getElem hi')
        have hl : l[i]? = some (.int .u8 n) := by
          rw [← e1, ← List.getElem?_eq_getElem hi', List.getElem?_take, if_pos (by omega)]
        obtain ⟨v', e3, e4⟩ := hc i _ hl
        cases e4
        rw [Nat.add_zero, e3]
        simp only [ns, List.getElem?_map, List.getElem?_eq_getElem hi', e1, Option.map_some, Option.getD_some]
      have hbytes : bs = ns.map fun n => UInt8.ofNat n.toNat := by
        apply List.ext_getElem?
        intro i
        by_cases hi : i < (l.take m).length
        · obtain ⟨n, e1, e2⟩ := g2 i _ (List.getElem?_eq_getElem hi)
          rw [e2]
          simp only [ns, List.getElem?_map, List.getElem?_eq_getElem hi, e1, Option.map_some]
        · rw [List.getElem?_eq_none (by omega), List.getElem?_eq_none (by simp only [List.length_map]; omega)]
      have hld := run_loadBytes (P := P) hw (ns := ns) ByteArray.empty hcell
      rw [hns] at hld
      have hsz : L.base + 0 + m ≤ c.size := by
        have := hcell (m - 1) (by omega)
        have := (Array.getElem?_eq_some_iff.1 this).1
        omega
      have hp := Post.ice (o := L.base + 0) (n := m) (fz' := (0, max m hi)) hS hb hL hw hm (by
        intro q hq _ hf
        obtain ⟨f1, f2, f3, f4⟩ := hf
        have f2' : fr.1 < fr.2 → L.base ≤ fr.1 ∧ fr.2 ≤ L.base + hi := fun x => by simpa using f2 (by show 0 < open_; decide) x
        refine ⟨fun i g1 g2 g3 => ⟨Nat.zero_le _, ?_⟩, fun _ g => ?_, ?_, fun g => absurd g (by show ¬ (0 = open_); decide)⟩
        · show i < max m hi
          split at g3
          · have : L.base + i < L.base + 0 + m := g3
            omega
          · rename_i hne
            have := f2' (by omega)
            have : L.base + i < max fr.2 (L.base + 0 + m) := g3
            omega
        · show L.base + 0 ≤ _ ∧ _ ≤ L.base + max m hi
          split
          · simp only; omega
          · rename_i hne
            have := f2' (by omega)
            simp only; omega
        · split
          · simp only; omega
          · simp only; omega)
      refine ⟨_, _, φ, _, _, ?_, hp, .string _, h7⟩
      have n0 : ¬ ((m : Int) < 0) := by omega
      have n1 : ¬ ((m : Int) > IntKind.i64.max) := by
        have h2 : IntKind.i64.max = 9223372036854775807 := by decide
        rw [h2]; omega
      have n2 : ¬ ((m : Int) = 0) := by omega
      have hel : (elemOf t).run P w = .ok ue w := by
        unfold elemOf
        simp only [Sem.run_bind, undT_run hu, Result.andThen_ok, Sem.run_pure]
      have hva : (variablesAt ⟨L.blk, L.base + 0, none⟩ ue m).run P w = .ok true w := by
        unfold variablesAt
        simp only [Sem.run_bind, run_program, run_shape, shape_of hw, Result.andThen_ok, Sem.run_pure, lies he hes hue hsz]
      show Sem.run P (asInt (Value.int kk (Int.ofNat m)) >>= _) w = _
      simp only [asInt, asIntOf, Int.ofNat_eq_natCast, Sem.run_bind, Sem.run_pure, Result.andThen_ok, ht0, if_neg n0, if_neg n1, if_neg n2, hel, Int.toNat_natCast, hva, if_true, hld, run_freeze, hbytes]
      rfl
end
end Go.Proofs.YtihplijjkcdcjaaGreatDoor.Abs

/-
  All builtins.
-/
namespace Go.Proofs.YtihplijjkcdcjaaGreatDoor.Abs
section
variable {P : Program} {φ : Phi} {st : St} {w : World} {β : Type}

/-- what is done answers, as a step of a region, what the evaluator goes on with -/
def ActN (P : Program) (φ : Phi) (st : St) (w : World) (s : Sem Next) (k : Value → St → Rs β) (r : β) : Prop :=
  ∃ v st' ψ n w', s.run P w = .ok n w' ∧ Post φ st w ψ st' w' ∧ ((∃ v', n = .value v' ∧ VRel ψ v v') ∨ (n = .skip ∧ v = undefV)) ∧ k v st' = .ok r
theorem Act.next {s : Sem Value} {k : Value → St → Rs β} {r : β} (h : Act P φ st w s k r) : ActN P φ st w (do pure (Next.value (← s))) k r := by
  obtain ⟨v, st', ψ, v', w', h1, h2, h3, h4⟩ := h
  exact ⟨v, st', ψ, .value v', w', run_v h1, h2, .inl ⟨v', rfl, h3⟩, h4⟩
theorem ActU.next {s : Sem Unit} {k : Value → St → Rs β} {r : β} (h : ActU P φ st w s k r) : ActN P φ st w (do s; pure Next.skip) k r := by
  obtain ⟨st', ψ, w', h1, h2, h3⟩ := h
  exact ⟨_, st', ψ, .skip, w', by simp [h1], h2, .inr ⟨rfl, rfl⟩, h3⟩

theorem eBuiltin_ok (hS : SRel φ st w) {b : Builtin} {ts : Array TypeId} {ty : TypeId} {cs : Array Bool} {vs : List Value} {args : Array Value} {k : Value → St → Rs β} {r : β} (h : eBuiltin P st b ts vs k = .ok r) (hl : LRel φ vs args.toList) :
    ActN P φ st w (builtin b ts ty cs args) k r := by
  have arg : ∀ (i : Nat) v, vs[i]? = some v → ∃ v', args[i]? = some v' ∧ VRel φ v v' := fun i v hv => by
    obtain ⟨v', h1, h2⟩ := hl.get hv
    exact ⟨v', by simpa using h1, h2⟩
  unfold eBuiltin at h
  split at h
  · split at h <;> first | (cases h; done) | skip
    obtain ⟨s', a1, a2⟩ := arg 0 _ rfl
    obtain ⟨x', b1, b2⟩ := arg 1 _ rfl
    exact (aAppend_ok hS h a1 b1 a2 b2).next
  · split at h <;> first | (cases h; done) | skip
    obtain ⟨s', a1, a2⟩ := arg 0 _ rfl
    obtain ⟨x', b1, b2⟩ := arg 1 _ rfl
    obtain ⟨t, h1, h2⟩ := Rs.bind_ok h
    exact (eCopy_ok hS (Rs.of_ok h1) h2 a1 b1 a2 b2).next
  · split at h <;> first | (cases h; done) | skip
    obtain ⟨s', a1, a2⟩ := arg 0 _ rfl
    obtain ⟨x', b1, b2⟩ := arg 1 _ rfl
    obtain ⟨t, h1, h2⟩ := Rs.bind_ok h
    exact (eDelete_ok hS (Rs.of_ok h1) h2 a1 b1 a2 b2).next
  · split at h <;> first | (cases h; done) | skip
    obtain ⟨s', a1, a2⟩ := arg 0 _ rfl
    obtain ⟨t, h1, h2⟩ := Rs.bind_ok h
    exact (eClear_ok hS (Rs.of_ok h1) h2 a1 a2).next
  · split at h <;> first | (cases h; done) | skip
    obtain ⟨s', a1, a2⟩ := arg 0 _ rfl
    have he : args = #[s'] := by
      apply Array.ext'
      have hlen := hl.1
      have : args.toList[0]? = some s' := by simpa using a1
      revert this hlen
      generalize args.toList = q
      intro x y
      match q, x, y with
      | [z], _, y => cases y; rfl
      | [], _, y => cases y
      | _ :: _ :: _, x, _ => simp at x
    subst he
    exact (eSliceData_ok hS h a2).next
  · split at h <;> first | (cases h; done) | skip
    obtain ⟨s', a1, a2⟩ := arg 0 _ rfl
    obtain ⟨x', b1, b2⟩ := arg 1 _ rfl
    have he : args = #[s', x'] := by
      apply Array.ext'
      have hlen := hl.1
      have e0 : args.toList[0]? = some s' := by simpa using a1
      have e1 : args.toList[1]? = some x' := by simpa using b1
      revert e0 e1 hlen
      generalize args.toList = q
      intro x y z
      match q, x, y, z with
      | [a, b], _, y, z => cases y; cases z; rfl
      | [], _, y, _ => cases y
      | [_], x, _, _ => simp at x
      | _ :: _ :: _ :: _, x, _, _ => simp at x
    subst he
    exact (eString_ok hS h a2 b2).next
  · obtain ⟨v, h1, h2⟩ := Rs.bind_ok h
    obtain ⟨v', h3, h4⟩ := pBuiltin_ok (ty := ty) (w := w) hS.mem h1 hl
    exact ⟨v, st, φ, .value v', w, h3 cs, .refl hS, .inl ⟨v', rfl, h4⟩, h2⟩
end
end Go.Proofs.YtihplijjkcdcjaaGreatDoor.Abs

