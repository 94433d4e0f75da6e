/-
  Operations that make one new block: what the evaluator says is what the model does.
-/
import Derived.Test.YtbakhdgiimjnkaaGreatDoorAbsPure7
namespace Go.Proofs.YtbakhdgiimjnkaaGreatDoor.Abs

/-- A NEW BLOCK under a name that is not in use. -/
theorem Post.newAt {φ : Phi} {st : St} {w : World} (k : SRel φ st w) (x : AObj) (o : Obj) (L : Loc) (n next d : Nat) (hn : φ n = none) (h0 : st.next ≤ n) (h1 : n < next) (h2 : st.next ≤ next) (hL : L.blk = w.heap.size) (hx : ∀ ψ : Phi, φ.le ψ → ORel ψ L x o) :
    Post φ st w (φ.add n L) ⟨st.heap.set n x, next⟩ { w with heap := w.heap.push o, drawn := d } := by
  have hle : φ.le (φ.add n L) := Phi.add_le hn
  have old : ∀ i, i < w.heap.size → (w.heap.push o)[i]? = w.heap[i]? := fun i hi => by rw [Array.getElem?_push, if_neg (by omega)]
  refine ⟨⟨⟨?_, ?_⟩, ?_, ?_⟩, hle, ⟨by simp, rfl, rfl, rfl, ?_⟩, h2, fun b hb => by simp only [Phi.add]; rw [if_neg (by omega)]⟩
  · intro b c y z M N hb hc hM hN hMN
    rcases Tr.get_set hb with ⟨rfl, _⟩ | ⟨n1, g1⟩ <;> rcases Tr.get_set hc with ⟨rfl, _⟩ | ⟨n2, g2⟩
    · rfl
    · rw [Phi.add_same] at hM
      obtain rfl := Option.some.inj hM
      simp only [Phi.add, if_neg n2] at hN
      have := k.mem.lt g2 hN
      omega
    · rw [Phi.add_same] at hN
      obtain rfl := Option.some.inj hN
      simp only [Phi.add, if_neg n1] at hM
      have := k.mem.lt g1 hM
      omega
    · simp only [Phi.add, if_neg n1] at hM
      simp only [Phi.add, if_neg n2] at hN
      exact k.mem.inj b c y z M N g1 g2 hM hN hMN
  · intro b y hb
    rcases Tr.get_set hb with ⟨rfl, rfl⟩ | ⟨n1, g1⟩
    · exact ⟨L, Phi.add_same _ _ _, o, by rw [hL]; simp, hx _ hle⟩
    · obtain ⟨M, h1, o', h2, h3⟩ := k.mem.obj b y g1
      exact ⟨M, hle _ _ h1, o', by
        show (w.heap.push o)[M.blk]? = some o'
        rw [old _ (k.mem.lt g1 h1)]; exact h2, h3.mono hle⟩
  · intro b hb
    have hb' : next ≤ b := hb
    simp only [Phi.add]
    rw [if_neg (by omega)]
    exact k.fresh b (by omega)
  · intro g hg
    exact hle _ _ (k.globals g hg)
  · intro i hi hn
    refine ⟨old i hi, fun b y M hb hM hk => ?_⟩
    rcases Tr.get_set hb with ⟨rfl, _⟩ | ⟨n1, g1⟩
    · rw [Phi.add_same] at hM
      obtain rfl := Option.some.inj hM
      omega
    · simp only [Phi.add, if_neg n1] at hM
      exact FrF.own hn b y M g1 hM hk

section
variable {P : Program} {φ : Phi} {w : World}

/-- what an operation that makes a block does -/
def Makes (P : Program) (φ : Phi) (w : World) (s : Sem Value) (x : AObj) (f : Nat → Value) : Prop :=
  ∃ o L v' d, s.run P w = .ok v' { w with heap := w.heap.push o, drawn := d } ∧ L.blk = w.heap.size ∧ (∀ ψ : Phi, φ.le ψ → ORel ψ L x o) ∧ ∀ (ψ : Phi) (n : Nat), φ.le ψ → ψ n = some L → VRel ψ (f n) v'

theorem frozen_zero (L : Loc) (n : Nat) : FrozenAt L n (0, 0) (0, 0) := ⟨fun i _ _ h => absurd h (by simp), fun _ h => absurd h (by simp), Nat.le_refl _, fun _ => .inl rfl⟩
theorem closed_rel {l : List Value} {c : Array Value} (h : LRel φ l c.toList) (e : TypeId) (b : Nat) : ∀ ψ : Phi, φ.le ψ → ORel ψ ⟨b, 0, 0, 0⟩ (.cells l e 0 false (0, 0)) (.cells c e (0, 0)) :=
  fun ψ hle => .closed rfl (by have := h.1; simpa using this.symm) (fun i v hv => by
    obtain ⟨v', a, r⟩ := h.get hv
    exact ⟨v', by simpa using a, r.mono hle⟩) (frozen_zero _ _)
theorem makes_ptr {l : List Value} {c : Array Value} {e : TypeId} {s : Sem Value} (h : LRel φ l c.toList) (hs : s.run P w = .ok (.pointer (some ⟨w.heap.size, 0, none⟩)) { w with heap := w.heap.push (.cells c e) }) : Makes P φ w s (.cells l e 0 false (0, 0)) ptrTo :=
  ⟨.cells c e, ⟨w.heap.size, 0, 0, 0⟩, _, w.drawn, hs, rfl, closed_rel h e _, fun ψ n _ hn => .ptr 0 hn⟩
theorem flat_cells {z : Value} (hz : Flat z) : LRel φ (cellsOf z) z.cells.toList := (hz.rel φ).cells
theorem flat_list {z : Value} (hz : Flat z) : cellsOf z = z.cells.toList := by cases hz <;> rfl
theorem flat_mem {z : Value} (hz : Flat z) : ∀ v ∈ cellsOf z, VRel φ v v := by
  intro v hv
  cases hz with
  | agg h => 
    obtain ⟨i, hi⟩ := List.mem_iff_getElem?.1 hv
    exact (h i v (by simpa [cellsOf] using hi)).rel φ
  | tuple h => 
    obtain rfl : v = _ := by simpa [cellsOf] using hv
    exact (Flat.tuple h).rel φ
  | bool => obtain rfl : v = _ := by simpa [cellsOf] using hv
            exact .bool _
  | int => obtain rfl : v = _ := by simpa [cellsOf] using hv
           exact .int _ _
  | float => obtain rfl : v = _ := by simpa [cellsOf] using hv
             exact .float _ _
  | complex => obtain rfl : v = _ := by simpa [cellsOf] using hv
               exact .complex _ _ _
  | string => obtain rfl : v = _ := by simpa [cellsOf] using hv
              exact .string _
  | nilPtr => obtain rfl : v = _ := by simpa [cellsOf] using hv
              exact .nilPtr
  | nilSlice => obtain rfl : v = _ := by simpa [cellsOf] using hv
                exact .nilSlice
  | nilMap => obtain rfl : v = _ := by simpa [cellsOf] using hv
              exact .nilMap
  | nilFunc => obtain rfl : v = _ := by simpa [cellsOf] using hv
               exact .nilFunc
  | nilIface => obtain rfl : v = _ := by simpa [cellsOf] using hv
                exact .nilIface
/-- zero cells, as often as is asked for -/
theorem reps_zero {z : Value} (hz : Flat z) {s n : Nat} (hs : (cellsOf z).length = s) :
    ((Array.range (n * s)).map (z.cells[· % z.cells.size]!)).toList = reps (cellsOf z) n := by
  have hc := flat_list hz
  have hsz : z.cells.size = s := by rw [← hs, hc]; simp
  apply List.ext_getElem?
  intro i
  by_cases hi : i < n * s
  · have hs0 : 0 < s := by
      rcases Nat.eq_zero_or_pos s with h | h
      · subst h; simp at hi
      · exact h
    rw [reps_get _ _ _ (by rw [hs]; exact hi), hs]
    have hm : i % s < z.cells.size := by rw [hsz]; exact Nat.mod_lt _ hs0
    simp only [Array.toList_map, Array.toList_range, List.getElem?_map, List.getElem?_range hi, Option.map_some, hsz]
    rw [hc, getElem!_pos z.cells _ hm]
    simp [hm]
  · rw [List.getElem?_eq_none (by simp; omega), List.getElem?_eq_none (by rw [reps_length, hs]; omega)]
theorem reps_rel {z : Value} (hz : Flat z) (n : Nat) : LRel φ (reps (cellsOf z) n) (reps (cellsOf z) n) := by
  refine ⟨rfl, fun i v v' a b => ?_⟩
  rw [a] at b
  cases b
  have hi : i < n * (cellsOf z).length := by
    rw [← reps_length]
    rcases Nat.lt_or_ge i (reps (cellsOf z) n).length with h | h
    · exact h
    · rw [List.getElem?_eq_none h] at a; cases a
  rw [reps_get _ _ _ hi] at a
  exact flat_mem hz v (List.mem_of_getElem? a)

theorem aSliceLit_ok {e : TypeId} {len : Nat} {ps qs : List (Nat × Value)} {x : AObj} {f : Nat → Value} {t : TypeId} (hu : P.underlying t = some (.slice e)) (h : aSliceLit P e len ps = .ok (x, f)) (hp : PRel φ ps qs) :
    Makes P φ w (Instr.buildSlice t len ⟨qs⟩) x f := by
  unfold aSliceLit at h
  obtain ⟨s, h1, e1⟩ := Rs.bind_ok h
  obtain ⟨h2, e2⟩ := ifb_no e1
  obtain ⟨z, h3, e3⟩ := Rs.bind_ok e2
  obtain ⟨h4, e4⟩ := ifb_no e3
  obtain ⟨cs, h5, e5⟩ := Rs.bind_ok e4
  cases e5
  obtain ⟨z1, z2⟩ := zeroT_ok h3
  have hs : (cellsOf z).length = s := by rw [← lenN_eq]; exact Nat.eq_of_beq_eq_true h4
  simp only [Bool.and_eq_true] at h2
  have hle : ¬ len * s > 2 ^ 24 := by
    have : len * s ≤ 16777216 := by simpa using h2.1
    omega
  have hlen : len ≤ 16777216 := by simpa using h2.2
  have key : ∀ zero : Array Value, ((Array.range (len * s)).map (zero[· % zero.size]!)).toList = reps (cellsOf z) len → ∃ rs, Instr.fill (fun i => some (i * s, s)) ((Array.range (len * s)).map (zero[· % zero.size]!)) qs = some rs ∧ LRel φ cs rs.toList := by
    intro zero hzero
    obtain ⟨rs, f1, f2, _⟩ := fill_ok (φ := φ) h5 hp (ds := (Array.range (len * s)).map (zero[· % zero.size]!)) (by rw [hzero]; exact reps_rel z2 len)
    exact ⟨rs, f1, f2⟩
  have fin : ∃ rs, (Instr.buildSlice t len ⟨qs⟩).run P w = .ok (.slice (some ⟨w.heap.size, 0, none⟩) len len) { w with heap := w.heap.push (.cells rs e) } ∧ LRel φ cs rs.toList := by
    unfold Instr.buildSlice
    by_cases h0 : len * s = 0
    · have hb : reps (cellsOf z) len = [] := List.eq_nil_of_length_eq_zero (by rw [reps_length, hs, h0])
      obtain ⟨rs, f1, f2⟩ := key #[] (by rw [hb, h0]; simp)
      refine ⟨rs, ?_, f2⟩
      simp [run_underlying hu, szT_run h1 w, hle, h0]
      rw [h0] at f1
      simp at f1
      simp [f1, newRow]
    · obtain ⟨rs, f1, f2⟩ := key z.cells (reps_zero z2 hs)
      refine ⟨rs, ?_, f2⟩
      simp [run_underlying hu, szT_run h1 w, hle, h0, z1, f1, newRow]
  obtain ⟨rs, f1, f2⟩ := fin
  exact ⟨.cells rs e, ⟨w.heap.size, 0, 0, 0⟩, _, w.drawn, f1, rfl, closed_rel f2 e _, fun ψ n _ hn => .slice 0 hn (by unfold open_; omega) (Nat.le_refl _)⟩

theorem aMakeSlice_ok {e t : TypeId} {l c : Nat} {k k' : IntKind} {x : AObj} {f : Nat → Value} (hu : P.underlying t = some (.slice e)) (h : aMakeSlice P e l c = .ok (x, f)) :
    Makes P φ w (Instr.makeSlice t (.int k (Int.ofNat l)) (.int k' (Int.ofNat c))) x f := by
  unfold aMakeSlice at h
  obtain ⟨s, h1, e1⟩ := Rs.bind_ok h
  obtain ⟨b, h2, e2⟩ := Rs.bind_ok e1
  obtain ⟨z, h3, e3⟩ := Rs.bind_ok e2
  obtain ⟨h4, e4⟩ := ifb_no e3
  obtain ⟨h5, e5⟩ := ifb_no e4
  obtain ⟨h6, e6⟩ := ifb_no e5
  obtain ⟨h7, e7⟩ := ifb_no e6
  rw [natK_eq, natK_eq] at e7
  cases e7
  obtain ⟨z1, z2⟩ := zeroT_ok h3
  have hs : (cellsOf z).length = s := by rw [← lenN_eq]; exact Nat.eq_of_beq_eq_true h7
  have hlc : l ≤ c := by simpa using h4
  have hc : c ≤ 1073741824 := by simpa using h5
  have hcb : c * b ≤ 1073741824 := by simpa using h6
  obtain ⟨i, hi, hb⟩ := bytesT_run h2 w
  have wl : IntKind.i64.wrap (Int.ofNat l) = Int.ofNat l := wrap_small _ _ (by unfold kLim; simp only; omega)
  have wc : IntKind.i64.wrap (Int.ofNat c) = Int.ofNat c := wrap_small _ _ (by unfold kLim; simp only; omega)
  have hbc : ¬ ((b : Int) * Int.ofNat c > 2 ^ 48) := by
    have : (b : Int) * Int.ofNat c = ((c * b : Nat) : Int) := by push_cast; rw [Int.mul_comm]; rfl
    rw [this]; omega
  have n0 : ∀ m : Nat, ¬ (Int.ofNat m < 0) := fun m => by simp
  have n1 : ¬ (Int.ofNat l > Int.ofNat c) := by simp; omega
  refine ⟨.cells (⟨reps (cellsOf z) c⟩) e, ⟨w.heap.size, 0, 0, 0⟩, .slice (some ⟨w.heap.size, 0, none⟩) l c, w.drawn, ?_, rfl, closed_rel (reps_rel z2 c) e _, fun ψ n _ hn => .slice 0 hn (by unfold open_; omega) hlc⟩
  unfold Instr.makeSlice
  have hrep : (Array.range (c * s)).map (z.cells[· % z.cells.size]!) = ⟨reps (cellsOf z) c⟩ := Array.ext' (reps_zero z2 hs)
  simp only [Sem.run_bind, run_underlying hu, Result.andThen_ok, asInt, asIntOf, Sem.run_pure, hi, hb, wl, wc]
  simp only [n0, n1, hbc, decide_false, Bool.or_false, Bool.false_eq_true, if_false, run_askRoom, Result.andThen_ok, Sem.run_bind, szT_run h1 w]
  by_cases h0 : c * s = 0
  · have hb0 : reps (cellsOf z) c = [] := List.eq_nil_of_length_eq_zero (by rw [reps_length, hs, h0])
    have q : (Array.map (fun (x : Nat) => (default : Value)) (Array.range 0)) = ⟨[]⟩ := Array.ext' (by simp)
    simp [h0, newRow, hb0, q]
  · simp [h0, z1, newRow, hrep]

theorem aBytes_ok {s d : TypeId} {us ud : TypeDesc} {a a' : Value} {x : AObj} {f : Nat → Value} (hs : P.underlying s = some us) (hd : P.underlying d = some ud) (h : aBytes P us ud a = .ok (x, f)) (ha : VRel φ a a') : Makes P φ w (convert s d a') x f := by
  unfold aBytes at h
  split at h <;> first | (cases h; done) | skip
  rename_i e str
  obtain ⟨ue, h1, e1⟩ := Rs.bind_ok h
  split at e1 <;> first | (cases e1; done) | skip
  cases e1
  cases ha
  have he := undT_ok h1
  have hsz : str.data.toList.length = str.size := Array.length_toList (xs := str.data)
  let cap := (Question.appendCap str.size 0 e).cut (w.tape w.drawn (.appendCap str.size 0 e))
  have hcap : str.size ≤ cap := Nat.le_add_right _ _
  let c : Array Value := (str.data.map fun (b : UInt8) => Value.int .u8 b.toNat) ++ Array.replicate (cap - str.size) (Value.int .u8 0)
  have hc : c.size = cap := by
    show ((str.data.map fun (b : UInt8) => Value.int .u8 b.toNat) ++ Array.replicate (cap - str.size) (Value.int .u8 0)).size = cap
    rw [Array.size_append, Array.size_map, Array.size_replicate]
    show str.size + (cap - str.size) = cap
    omega
  refine ⟨.cells c e (cap, cap + 1), ⟨w.heap.size, 0, 1, cap⟩, .slice (some ⟨w.heap.size, 0, none⟩) str.size cap, w.drawn + 1, ?_, rfl, fun ψ hle => ?_, fun ψ n _ hn => ?_⟩
  · unfold convert
    simp only [Sem.run_bind, run_underlying hs, run_underlying hd, Result.andThen_ok, run_underlying he]
    unfold Conv.stringToBytes
    rw [Sem.run_bind, run_choose]
    have hnf : (Question.appendCap str.size 0 e).forced = false := rfl
    rw [hnf]
    simp only [Bool.false_eq_true, if_false, Result.andThen_ok]
    show ((do let a ← newRow e c; markStringish a; pure (.slice (some a) str.size cap) : Sem Value)).run P { w with drawn := w.drawn + 1 } = _
    unfold newRow markStringish
    simp only [Sem.run_bind, run_newObj, Result.andThen_ok, Sem.run_pure, run_shape]
    have hsh : ({ w with drawn := w.drawn + 1, heap := w.heap.push (.cells c e) } : World).shape? w.heap.size = some (e, c.size) := by
      simp [World.shape?]
    rw [hsh]
    simp only [run_freeze, Result.andThen_ok, Sem.run_pure]
    congr 1
    unfold World.freeze
    rw [if_neg (by decide)]
    congr 1
    apply Array.ext_getElem?
    intro i
    rw [Array.getElem?_modify]
    by_cases h0 : i = w.heap.size
    · subst h0
      simp [hc]
    · rw [if_neg (fun h => h0 h.symm)]
      rw [Array.getElem?_push, Array.getElem?_push, if_neg h0, if_neg h0]
  · refine .room (L := ⟨w.heap.size, 0, 1, cap⟩) (by simp) (by simp [hc]) ?_ ?_ ?_ ?_
    · simp only [Nat.mul_one]
      rw [byteCells_eq, List.length_map, hsz]; exact hcap
    · intro i v hv
      rw [byteCells_eq, List.getElem?_map] at hv
      cases hb : str.data.toList[i]? with
      | none => rw [hb] at hv; cases hv
      | some b =>
        rw [hb] at hv
        obtain rfl : Value.int .u8 (Int.ofNat b.toNat) = v := by simpa using hv
        refine ⟨.int .u8 (Int.ofNat b.toNat), ?_, .int _ _⟩
        have hi : i < str.data.size := by
          rcases Nat.lt_or_ge i str.data.size with h | h
          · exact h
          · rw [List.getElem?_eq_none (by simpa using h)] at hb; cases hb
        show c[0 + i]? = _
        rw [Nat.zero_add, Array.getElem?_append_left (by simpa using hi), Array.getElem?_map]
        have : str.data[i]? = some b := by simpa using hb
        rw [this]; rfl
    · refine ⟨fun i hi h1 _ => ?_, fun h => absurd h (by simp), Nat.le_succ _, fun _ => .inr (by simp)⟩
      simp only [Nat.mul_one] at hi
      simp only at h1
      omega
    · intro i hi
      simp only [Nat.mul_one] at hi
      exact ⟨_, Array.getElem?_eq_getElem (by simp only; omega)⟩
  · rw [lenN_eq, hsz]
    have := VRel.room (φ := ψ) (b := n) (n := str.size) (c := cap) (j := 0) (L := ⟨w.heap.size, 0, 1, cap⟩) hn (by simp) (by simp) hcap
    simpa using this
end
end Go.Proofs.YtbakhdgiimjnkaaGreatDoor.Abs
