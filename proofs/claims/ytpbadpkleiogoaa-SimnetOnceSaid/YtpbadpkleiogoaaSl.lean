/-
  Slices that a call owns, at whatever place of their block: 'Sl w E size v n xs'. What append does to them, in one law, whatever is appended. No program in sight.
-/
import Derived.Test.YtpbadpkleiogoaaBase
import Derived.Deep.AppendLies
import Derived.Lib.AppendStr
namespace Go.Proofs.Ytpbadpkleiogoaa
open Go.RowKit

/-- no cell of a block of so many cells is frozen -/
def FreeZ (n : Nat) (fz : Nat × Nat) : Prop := ∀ j, j < n → ¬ (fz.1 ≤ j ∧ j < fz.2)
theorem FreeZ.zero (n : Nat) : FreeZ n (0, 0) := fun j _ h => absurd h.2 (by simp)
theorem FreeZ.frozen {w : World} {g : Nat} {cur : Array Value} {t : TypeId} {fz : Nat × Nat} (h : FreeZ cur.size fz) (hg : w.heap[g]? = some (.cells cur t fz)) {j : Nat} (hj : j < cur.size) : w.frozen? ⟨g, j, none⟩ = false := by
  obtain ⟨a, b⟩ := fz
  have h1 := h j hj
  simp only at h1
  simp only [World.frozen?, hg]
  by_cases c : a ≤ j
  · have : ¬ j < b := fun x => h1 ⟨c, x⟩
    simp [this]
  · simp [c]

/-- cells stored one behind the other into a block none of whose cells is frozen -/
theorem store_cells_free (P : Program) (g o : Nat) (t : TypeId) (fz : Nat × Nat) (vs : List Value) : ∀ (i : Nat) (cur : Array Value) (w : World), w.heap[g]? = some (.cells cur t fz) → FreeZ cur.size fz → o + i + vs.length ≤ cur.size → (∀ v ∈ vs, v.oneCell' = true) →
    (storeCells ⟨g, o, none⟩ vs i).run P w = .ok () (w.setRow g (cur.toList.take (o + i) ++ vs ++ cur.toList.drop (o + i + vs.length)).toArray) := by
  induction vs with
  | nil =>
    intro i cur w hg _ _ _
    simp only [storeCells, List.append_nil, List.length_nil, Nat.add_zero, List.take_append_drop, Array.toArray_toList]
    rw [setRow_self w g cur t fz hg]
    rfl
  | cons v rest ih =>
    intro i cur w hg hz hl h1
    rw [List.length_cons] at hl
    have hi : o + i < cur.size := by omega
    have hst : (store ((⟨g, o, none⟩ : Addr).add i) v).run P w = .ok () (w.setRow g (cur.setIfInBounds (o + i) v)) := by
      have hc : w.cell? ⟨g, o + i, none⟩ = some cur[o + i] := by simp [World.cell?, hg, hi]
      have hf := hz.frozen hg hi
      rw [Addr.add_lit, run_store P w _ v _ (h1 v (by simp)), hc]
      simp [hf, setCell_eq_setRow w g (o + i) cur t fz v hg]
    have hnext := ih (i + 1) (cur.setIfInBounds (o + i) v) (w.setRow g (cur.setIfInBounds (o + i) v)) (setRow_heap w g cur _ t _ hg) (by simpa using hz) (by simp; omega) (fun x hx => h1 x (by simp [hx]))
    simp only [storeCells, Sem.run_bind, hst, Result.andThen_ok, hnext, setRow_setRow]
    congr 3
    have := list_seg_step cur.toList (o + i) v rest (by simp; omega)
    simpa [Array.toList_setIfInBounds, Nat.add_assoc] using this

/-- v is nil, or a part of a block; its n elements are the cells xs. -/
def Sl (w : World) (E : TypeId) (size : Nat) (v : Value) (n : Nat) (xs : List Value) : Prop :=
  xs.length = n * size ∧ ((v = .slice none 0 0 ∧ n = 0) ∨ ∃ g off cap cur fz, v = .slice (some ⟨g, off, none⟩) n cap ∧ w.heap[g]? = some (.cells cur E fz) ∧ FreeZ cur.size fz ∧ n ≤ cap ∧ cap ≤ maxLen ∧
    off + cap * size ≤ cur.size ∧ ∀ j, j < xs.length → cur[off + j]? = xs[j]?)

/-- what is appended: m elements, the cells news -/
def Src (P : Program) (w : World) (size : Nat) (tx : TypeId) (x : Value) (m : Nat) (news : List Value) : Prop :=
  news.length = m * size ∧ (∀ u ∈ news, u.oneCell' = true) ∧
    ((∃ ex c, P.underlying tx = some (.slice ex) ∧ x = .slice none m c ∧ m = 0) ∨ (∃ ex ad c, P.underlying tx = some (.slice ex) ∧ x = .slice (some ad) m c ∧ ∀ j u, news[j]? = some u → w.cell? (ad.add j) = some u) ∨
      (∃ s : ByteArray, P.underlying tx = some .string ∧ size = 1 ∧ x = .string s ∧ m = s.size ∧ news = Lib.strCells s))

section
variable {P : Program} {w w' : World} {E : TypeId} {size n : Nat} {v : Value} {xs : List Value}

theorem Sl.nil (w : World) (E : TypeId) (size : Nat) : Sl w E size (.slice none 0 0) 0 [] := ⟨by simp, .inl ⟨rfl, rfl⟩⟩
theorem Sl.new (w : World) (E : TypeId) (size n : Nat) (xs : List Value) (h : xs.length = n * size) (hm : n ≤ maxLen) : Sl (w.alloc (.cells xs.toArray E)) E size (.slice (some ⟨w.heap.size, 0, none⟩) n n) n xs :=
  ⟨h, .inr ⟨_, 0, n, _, _, rfl, heap_alloc_new w _, FreeZ.zero _, Nat.le_refl _, hm, by simp [h], fun j _ => by simp⟩⟩
theorem block_of_add' (a : Addr) (n : Nat) : (a.add n).block = a.block := by unfold Addr.add; split <;> rfl
theorem heap_lt {w : World} {g : Nat} {o : Obj} (hb : w.heap[g]? = some o) : g < w.heap.size := by
  rcases Nat.lt_or_ge g w.heap.size with x | x
  · exact x
  · rw [Array.getElem?_eq_none x] at hb
    cases hb
theorem Sl.lt (h : Sl w E size v n xs) {b : Nat} (hb : v.ownBlock = some b) : b < w.heap.size := by
  rcases h.2 with ⟨rfl, _⟩ | ⟨g, off, cap, cur, fz, rfl, hg, _⟩
  · cases hb
  · obtain rfl : g = b := by simpa [Value.ownBlock] using hb
    exact heap_lt hg
theorem Sl.keep (h : Sl w E size v n xs) (hb : ∀ b, v.ownBlock = some b → w'.heap[b]? = w.heap[b]?) : Sl w' E size v n xs :=
  ⟨h.1, h.2.imp id fun ⟨g, off, cap, cur, fz, h1, h2, h3⟩ => ⟨g, off, cap, cur, fz, h1, (hb g (by rw [h1]; rfl)).trans h2, h3⟩⟩
theorem Sl.mod {S : Nat → Prop} (h : Sl w E size v n xs) (m : Mod S w w') (hs : ∀ b, v.ownBlock = some b → ¬ S b) : Sl w' E size v n xs := h.keep fun b hb => m.block b (h.lt hb) (hs b hb)
theorem Sl.alloc (h : Sl w E size v n xs) (o : Obj) : Sl (w.alloc o) E size v n xs := h.mod ((Mod.refl (fun _ => False) w).alloc o) (fun _ _ => id)
theorem Sl.setCell (h : Sl w E size v n xs) {p : Addr} (hp : v.ownBlock ≠ some p.block) (u : Value) : Sl (w.setCell p u) E size v n xs :=
  h.keep fun b hb => Below.heap_setCell w p u b (fun e => hp (e ▸ hb))
theorem Sl.drew (h : Sl w E size v n xs) : Sl w.drew E size v n xs := h
theorem Sl.drewN (h : Sl w E size v n xs) (k : Nat) : Sl (w.drewN k) E size v n xs := h
theorem Sl.shape (h : Sl w E size v n xs) : ∃ A cap, v = .slice A n cap ∧ n ≤ cap ∧ cap ≤ maxLen := by
  rcases h.2 with ⟨rfl, rfl⟩ | ⟨g, off, cap, cur, fz, rfl, _, _, h3, h4, _⟩
  · exact ⟨none, 0, rfl, Nat.le_refl _, by unfold maxLen; omega⟩
  · exact ⟨_, cap, rfl, h3, h4⟩
/-- where its cells lie -/
theorem Sl.at_ (h : Sl w E size v n xs) (hn : 0 < n) : ∃ g off cap, v = .slice (some ⟨g, off, none⟩) n cap ∧ n ≤ cap ∧ cap ≤ maxLen ∧ g < w.heap.size ∧ (∀ j, j < xs.length → w.cell? ⟨g, off + j, none⟩ = xs[j]?) ∧ (∀ j, j < xs.length → w.frozen? ⟨g, off + j, none⟩ = false) := by
  rcases h.2 with ⟨_, h0⟩ | ⟨g, off, cap, cur, fz, rfl, hb, hz, h3, h4, h5, h6⟩
  · omega
  · refine ⟨g, off, cap, rfl, h3, h4, heap_lt hb, fun j hj => ?_, fun j hj => hz.frozen hb (by have := Nat.mul_le_mul_right size h3; have := h.1; omega)⟩
    rw [← h6 j hj]
    simp [World.cell?, hb]
theorem Sl.src (h : Sl w E size v n xs) {t : TypeId} (ht : P.underlying t = some (.slice E)) (h1 : ∀ u ∈ xs, u.oneCell' = true) : Src P w size t v n xs := by
  refine ⟨h.1, h1, ?_⟩
  rcases h.2 with ⟨rfl, rfl⟩ | ⟨g, off, cap, cur, fz, rfl, hb, hz, h3, h4, h5, h6⟩
  · exact .inl ⟨E, 0, ht, rfl, rfl⟩
  · refine .inr (.inl ⟨E, _, cap, ht, rfl, fun j u hu => ?_⟩)
    have hj : j < xs.length := by
      rcases Nat.lt_or_ge j xs.length with x | x
      · exact x
      · rw [List.getElem?_eq_none x] at hu
        cases hu
    rw [Addr.add_lit, World.cell?, hb]
    simp [h6 j hj, hu]

theorem flat_len {α : Type} (f : α → List Value) (s : Nat) (hf : ∀ x, (f x).length = s) : ∀ l : List α, (l.flatMap f).length = l.length * s
  | [] => by simp
  | a :: l => by
    have := flat_len f s hf l
    simp [List.flatMap_cons, hf, this, Nat.add_mul]
    omega
theorem flat_get {α : Type} (f : α → List Value) (s : Nat) (hf : ∀ x, (f x).length = s) : ∀ (l : List α) (k j : Nat) (h : k < l.length), j < s → (l.flatMap f)[k * s + j]? = (f l[k])[j]?
  | a :: l, 0, j, _, hj => by
    simp only [List.flatMap_cons, Nat.zero_mul, Nat.zero_add, List.getElem_cons_zero]
    rw [List.getElem?_append_left (by rw [hf]; exact hj)]
  | a :: l, k + 1, j, h, hj => by
    have := flat_get f s hf l k j (by simpa using h) hj
    simp only [List.flatMap_cons, List.getElem_cons_succ]
    rw [List.getElem?_append_right (by rw [hf, Nat.add_mul]; omega), ← this]
    congr 1
    rw [hf, Nat.add_mul]
    omega
theorem flat_take {α : Type} (f : α → List Value) (s : Nat) (hf : ∀ x, (f x).length = s) : ∀ (l : List α) (i : Nat), (l.take i).flatMap f = (l.flatMap f).take (i * s)
  | [], i => by simp
  | a :: l, 0 => by simp
  | a :: l, i + 1 => by
    have := flat_take f s hf l i
    have e : (i + 1) * s = (f a).length + i * s := by rw [hf, Nat.add_mul]; omega
    simp only [List.take_succ_cons, List.flatMap_cons, this, e]
    rw [List.take_length_add_append]
theorem flat_drop {α : Type} (f : α → List Value) (s : Nat) (hf : ∀ x, (f x).length = s) : ∀ (l : List α) (i : Nat), (l.drop i).flatMap f = (l.flatMap f).drop (i * s)
  | [], i => by simp
  | a :: l, 0 => by simp
  | a :: l, i + 1 => by
    have := flat_drop f s hf l i
    have e : (i + 1) * s = (f a).length + i * s := by rw [hf, Nat.add_mul]; omega
    simp only [List.drop_succ_cons, List.flatMap_cons, this, e]
    rw [List.drop_length_add_append]
/-- a shorter part, from its head -/
theorem Sl.take {a : Addr} {c : Nat} (h : Sl w E size (.slice (some a) n c) n xs) {i : Nat} (hi : i ≤ n) : Sl w E size (.slice (some a) i c) i (xs.take (i * size)) := by
  have hm : i * size ≤ n * size := Nat.mul_le_mul_right _ hi
  have h0 := h.1
  refine ⟨by rw [List.length_take]; omega, .inr ?_⟩
  rcases h.2 with ⟨e, _⟩ | ⟨g, off, cap, cur, fz, e, hb, hz, h3, h4, h5, h6⟩
  · cases e
  · cases e
    refine ⟨g, off, c, cur, fz, rfl, hb, hz, by omega, h4, h5, fun j hj => ?_⟩
    rw [List.length_take] at hj
    rw [h6 j (by omega), List.getElem?_take, if_pos (by omega)]
/-- without its first element -/
theorem Sl.rest {g off c : Nat} (h : Sl w E 1 (.slice (some ⟨g, off, none⟩) n c) n xs) (hn : 0 < n) : Sl w E 1 (.slice (some ⟨g, off + 1, none⟩) (n - 1) (c - 1)) (n - 1) (xs.drop 1) := by
  have h0 := h.1
  refine ⟨by rw [List.length_drop]; omega, .inr ?_⟩
  rcases h.2 with ⟨e, _⟩ | ⟨g', off', cap, cur, fz, e, hb, hz, h3, h4, h5, h6⟩
  · cases e
  · cases e
    refine ⟨g, off + 1, c - 1, cur, fz, rfl, hb, hz, by omega, by omega, by omega, fun j hj => ?_⟩
    rw [List.length_drop] at hj
    rw [List.getElem?_drop, ← h6 (1 + j) (by omega)]
    congr 1
    omega
/-- nothing of it -/
theorem Sl.none_of {g off c : Nat} (h : Sl w E 1 (.slice (some ⟨g, off, none⟩) n c) n xs) : Sl w E 1 (.slice (some ⟨g, off, none⟩) 0 0) 0 [] := by
  refine ⟨by simp, .inr ?_⟩
  rcases h.2 with ⟨e, _⟩ | ⟨g', off', cap, cur, fz, e, hb, hz, h3, h4, h5, h6⟩
  · cases e
  · cases e
    exact ⟨g, off, 0, cur, fz, rfl, hb, hz, by omega, by omega, by omega, fun j hj => absurd hj (by simp)⟩
/-- what stands from place k on, to be appended -/
theorem Sl.tail {t : TypeId} (ht : P.underlying t = some (.slice E)) {g off c : Nat} (h : Sl w E size (.slice (some ⟨g, off, none⟩) n c) n xs) (h1 : ∀ u ∈ xs, u.oneCell' = true) {k : Nat} (c' : Nat) :
    Src P w size t (.slice (some ⟨g, off + k * size, none⟩) (n - k) c') (n - k) (xs.drop (k * size)) := by
  have h0 := h.1
  refine ⟨by rw [List.length_drop, h0, ← Nat.sub_mul], fun u hu => h1 u (List.mem_of_mem_drop hu), .inr (.inl ⟨E, _, c', ht, rfl, fun j u hu => ?_⟩)⟩
  rcases h.2 with ⟨e, _⟩ | ⟨g', off', cap, cur, fz, e, hb, hz, h3, h4, h5, h6⟩
  · cases e
  · cases e
    rw [List.getElem?_drop] at hu
    have hj : k * size + j < xs.length := by
      rcases Nat.lt_or_ge (k * size + j) xs.length with x | x
      · exact x
      · rw [List.getElem?_eq_none x] at hu
        cases hu
    have := h6 _ hj
    rw [Addr.add_lit, World.cell?, hb, Nat.add_assoc]
    simp [this, hu]
/-- element k of an owned slice -/
theorem Sl.elem {α : Type} {f : α → List Value} {l : List α} (h : Sl w E size v n (l.flatMap f)) (hf : ∀ x, (f x).length = size) (hl : l.length = n) (_hs : 0 < size) {k : Nat} (hk : k < n) :
    ∃ g off cap, v = .slice (some ⟨g, off, none⟩) n cap ∧ n ≤ cap ∧ cap ≤ maxLen ∧ g < w.heap.size ∧ (∀ j, j < size → w.cell? ⟨g, off + k * size + j, none⟩ = (f (l[k]'(by omega)))[j]?) ∧ (∀ j, j < size → w.frozen? ⟨g, off + k * size + j, none⟩ = false) := by
  obtain ⟨g, off, cap, hv, h1, h2, h3, h4, h5⟩ := h.at_ (by omega)
  have hin : ∀ j, j < size → k * size + j < (l.flatMap f).length := fun j hj => by
    rw [flat_len f size hf, hl]
    calc k * size + j < k * size + size := by omega
      _ = (k + 1) * size := by rw [Nat.add_mul]; omega
      _ ≤ n * size := Nat.mul_le_mul_right _ hk
  refine ⟨g, off, cap, hv, h1, h2, h3, fun j hj => ?_, fun j hj => ?_⟩
  · rw [← flat_get f size hf l k j (by omega) hj, Nat.add_assoc]
    exact h4 _ (hin j hj)
  · rw [Nat.add_assoc]
    exact h5 _ (hin j hj)

theorem Src.mod {S : Nat → Prop} {tx : TypeId} {x : Value} {m : Nat} {news : List Value} (h : Src P w size tx x m news) (k : Mod S w w') (hs : ∀ b, x.ownBlock = some b → ¬ S b) : Src P w' size tx x m news := by
  refine ⟨h.1, h.2.1, ?_⟩
  rcases h.2.2 with h1 | ⟨ex, ad, c, h1, rfl, h2⟩ | h1
  · exact .inl h1
  · refine .inr (.inl ⟨ex, ad, c, h1, rfl, fun j u hu => ?_⟩)
    have h3 := h2 j u hu
    have hlt := World.block_lt_of_cell? w _ h3
    rw [← h3]
    refine World.cell?_of_block (k.block _ hlt ?_)
    rw [block_of_add']
    exact hs _ rfl
  · exact .inr (.inr h1)
theorem Src.new (w : World) (cs : List Value) (T tx ex : TypeId) (ht : P.underlying tx = some (.slice ex)) (size m c : Nat) (hl : cs.length = m * size) (h1 : ∀ u ∈ cs, u.oneCell' = true) :
    Src P (w.alloc (.cells cs.toArray T)) size tx (.slice (some ⟨w.heap.size, 0, none⟩) m c) m cs := by
  refine ⟨hl, h1, .inr (.inl ⟨ex, _, c, ht, rfl, fun j u hu => ?_⟩)⟩
  rw [Addr.add_lit, Nat.zero_add, World.cell?, heap_alloc_new w _]
  simpa using hu
theorem Src.empty (w : World) (size : Nat) (tx ex : TypeId) (ht : P.underlying tx = some (.slice ex)) (a : Addr) (c : Nat) : Src P w size tx (.slice (some a) 0 c) 0 [] :=
  ⟨by simp, by simp, .inr (.inl ⟨ex, a, c, ht, rfl, fun j u h => by simp at h⟩)⟩
theorem Mod.cell {S : Nat → Prop} {w w' : World} {p : Addr} {u : Value} (m : Mod S w w') (h : w.cell? p = some u) (hs : ¬ S p.block) : w'.cell? p = some u :=
  (World.cell?_of_block (m.block p.block (World.block_lt_of_cell? w p h) hs)).trans h
theorem Mod.free {S : Nat → Prop} {w w' : World} {p : Addr} (m : Mod S w w') (h : w.frozen? p = false) (hl : p.block < w.heap.size) (hs : ¬ S p.block) : w'.frozen? p = false :=
  (World.frozen?_of_block (m.block p.block hl hs)).trans h
theorem keepA {w : World} {p : Addr} {u : Value} {o : Obj} (h : w.cell? p = some u) : (w.alloc o).cell? p = some u := ((Mod.refl (fun _ => False) w).alloc o).cell h id
theorem keepF {w : World} {p : Addr} {o : Obj} (h : w.frozen? p = false) (hl : p.block < w.heap.size) : (w.alloc o).frozen? p = false := ((Mod.refl (fun _ => False) w).alloc o).free h hl id
theorem Src.alloc {tx : TypeId} {x : Value} {m : Nat} {news : List Value} (h : Src P w size tx x m news) (o : Obj) : Src P (w.alloc o) size tx x m news :=
  h.mod ((Mod.refl (fun _ => False) w).alloc o) (fun _ _ => id)
theorem Src.run {tx : TypeId} {x : Value} {m : Nat} {news : List Value} (h : Src P w size tx x m news) (hh : w'.heap = w.heap) : (Builtin.lenOf x).run P w' = .ok m w' ∧ (Builtin.firstCells size m x).run P w' = .ok news.toArray w' := by
  obtain ⟨hl, _, hs⟩ := h
  rcases hs with ⟨_, c, _, rfl, rfl⟩ | ⟨_, ad, c, _, rfl, hc⟩ | ⟨s, _, rfl, rfl, rfl, rfl⟩
  · obtain rfl : news = [] := List.eq_nil_of_length_eq_zero (by simpa using hl)
    exact ⟨by simp [Builtin.lenOf], by simp [Builtin.firstCells]⟩
  · exact ⟨by simp [Builtin.lenOf], run_firstCells_some (P := P) w' size m ad m c news hl (fun j u hu => by rw [World.cell?, hh]; exact hc j u hu)⟩
  · exact ⟨by simp [Builtin.lenOf], Lib.run_firstCells_string w' 1 s⟩
theorem Src.kind {tx : TypeId} {x : Value} {m : Nat} {news : List Value} (h : Src P w size tx x m news) : (∃ ex, P.underlying tx = some (.slice ex)) ∨ P.underlying tx = some .string := by
  rcases h.2.2 with ⟨e, _, h, _⟩ | ⟨e, _, _, h, _⟩ | ⟨_, h, _⟩
  · exact .inl ⟨_, h⟩
  · exact .inl ⟨_, h⟩
  · exact .inr h

set_option maxHeartbeats 1000000 in
/-- THE LAW. -/
theorem run_append_sl (t tx ty : TypeId) (i : TypeInfo) (z : Value) (bytes : Nat) (ht : P.underlying t = some (.slice E)) (hi : P.info? E = some i) (hz : i.zero = some z)
    (hsize : i.size = size) (hby : i.bytes = bytes) (hzs : z.cells.size = size)
    (hv : Sl w E size v n xs) {x : Value} {m : Nat} {news : List Value} (hx : Src P w size tx x m news)
    (h63 : n + m ≤ maxLen) (hbytes : (n + m) * bytes ≤ 140737488355328) :
    ∃ v' w', (Builtin.append_ #[t, tx] ty #[v, x]).run P w = .ok v' w' ∧ Sl w' E size v' (n + m) (xs ++ news) ∧ Mod (fun b => v.ownBlock = some b) w w' ∧ (v'.ownBlock = v.ownBlock ∨ v'.ownBlock = some w.heap.size) ∧ w'.heap.size ≤ w.heap.size + 1 ∧
      (∀ A cap, v = .slice A n cap → n + m ≤ cap → v' = .slice A (n + m) cap) := by
  subst hsize
  subst hby
  have hsmall : n + m ≤ 9223372036854775807 := by simp only [maxLen] at h63; omega
  have h63' : ¬ ((9223372036854775807 : Int) < (n : Int) + (m : Int)) := by omega
  have hlen : (xs ++ news).length = (n + m) * i.size := by rw [List.length_append, hv.1, hx.1, Nat.add_mul]
  obtain ⟨hlo, hfc⟩ := hx.run (w' := w) rfl
  obtain ⟨_, hfcd⟩ := hx.run (w' := w.drew) rfl
  have grown : ∀ (old : Nat), old < n + m →
      Sl (w.drew.alloc (.cells (xs.toArray ++ news.toArray ++ Builtin.zeroCells z.cells (grownCap w (n + m) old E - (n + m))) E)) E i.size
        (.slice (some ⟨w.heap.size, 0, none⟩) (n + m) (grownCap w (n + m) old E)) (n + m) (xs ++ news) := by
    intro old ho
    have hge := grownCap_ge w (n + m) old E
    have hcm : grownCap w (n + m) old E ≤ maxLen := grownCap_le_maxLen w (n + m) old E h63
    refine ⟨hlen, .inr ⟨_, 0, _, _, _, rfl, heap_alloc_new w.drew _, FreeZ.zero _, hge, hcm, ?_, fun j hj => ?_⟩⟩
    · simp only [Array.size_append, List.size_toArray, size_zeroCells, hzs, hv.1, hx.1, ← Nat.add_mul, Nat.zero_add]
      exact Nat.mul_le_mul_right _ (by omega)
    · rw [Nat.zero_add, Array.getElem?_append_left (by simpa using hj)]
      simp
  rcases hv.2 with ⟨rfl, rfl⟩ | ⟨g, off, cap, cur, fz, rfl, hg, hfz, hnc, hcm, hcs, hread⟩
  · obtain rfl : xs = [] := List.eq_nil_of_length_eq_zero (by simpa using hv.1)
    by_cases hm : m = 0
    · subst hm
      obtain rfl : news = [] := List.eq_nil_of_length_eq_zero (by simpa using hx.1)
      refine ⟨.slice none 0 0, w, ?_, Sl.nil w E i.size, Mod.refl _ _, .inl rfl, by omega, fun A cap e _ => by rw [e]⟩
      rcases hx.kind with ⟨ex, hd⟩ | hd <;> simp [Builtin.append_, run_underlying ht, run_underlying hd, sizeOf, typeInfo, hi, hlo, hfc]
    · have hfit := growslice_fits (need := 0 + m) (old := 0) (bytes := i.bytes) (by omega) hbytes
      have h48 : ¬ (281474976710656 < Builtin.nextslicecap (0 + m) 0 * i.bytes) := by omega
      have hn0 : ¬ (0 + m ≤ 0) := by omega
      have hfn := run_firstCells_none (P := P) w.drew i.size 0 0 0
      have hgr := grown 0 (by omega)
      refine ⟨_, _, ?_, hgr, (((Mod.refl _ w).drew).alloc _), .inr rfl, by simp, fun A cap e hle => by cases e; omega⟩
      simp only [Nat.zero_add] at h48 hn0 h63'
      have h63'' : ¬ ((9223372036854775807 : Int) < (m : Int)) := by omega
      rcases hx.kind with ⟨ex, hd⟩ | hd <;> simp [Builtin.append_, run_underlying ht, run_underlying hd, sizeOf, typeInfo, zeroValue, hi, hz, hlo, hm, h63'', h48, Question.forced, hfcd, hfn, newRow, grownCap]
  · by_cases hroom : n + m ≤ cap
    · have hmul : (n + m) * i.size ≤ cap * i.size := Nat.mul_le_mul_right _ hroom
      rw [Nat.add_mul] at hmul
      have hnl := hx.1
      have hxl := hv.1
      have hst := store_cells_free P g (off + n * i.size) E fz news 0 cur w hg hfz (by omega) hx.2.1
      simp only [Nat.add_zero] at hst
      have hsz : (cur.toList.take (off + n * i.size) ++ news ++ cur.toList.drop (off + n * i.size + news.length)).toArray.size = cur.size := by
        simp only [List.size_toArray, List.length_append, List.length_take, List.length_drop, Array.length_toList]
        omega
      refine ⟨.slice (some ⟨g, off, none⟩) (n + m) cap, w.setRow g (cur.toList.take (off + n * i.size) ++ news ++ cur.toList.drop (off + n * i.size + news.length)).toArray, ?_,
        ⟨hlen, .inr ⟨g, off, cap, (cur.toList.take (off + n * i.size) ++ news ++ cur.toList.drop (off + n * i.size + news.length)).toArray, fz, rfl, setRow_heap w g cur _ E _ hg, by rw [hsz]; exact hfz, hroom, hcm, by rw [hsz]; exact hcs, fun j hj => ?_⟩⟩,
        ⟨rfl, rfl, rfl, by simp, fun k _ hk => setRow_other w g k _ (fun e => hk (by simp [Value.ownBlock, e]))⟩, .inl rfl, by simp, fun A cap e _ => by cases e; rfl⟩
      · rcases hx.kind with ⟨ex, hd⟩ | hd <;> simp [Builtin.append_, run_underlying ht, run_underlying hd, sizeOf, typeInfo, hi, hlo, hroom, hfc, Addr.add_lit, hst]
      · rw [List.length_append] at hj
        rw [List.getElem?_toArray]
        by_cases h1 : j < xs.length
        · rw [List.append_assoc, List.getElem?_append_left (by simp; omega), List.getElem?_take, if_pos (by omega), Array.getElem?_toList, hread j h1, List.getElem?_append_left h1]
        · rw [List.append_assoc, List.getElem?_append_right (by simp; omega), List.getElem?_append_left (by simp; omega), List.getElem?_append_right (by omega)]
          congr 1
          simp
          omega
    · have holds : ∀ j u, xs[j]? = some u → w.drew.cell? ((⟨g, off, none⟩ : Addr).add j) = some u := fun j u hu => by
        have hj : j < xs.length := by
          rcases Nat.lt_or_ge j xs.length with x | x
          · exact x
          · rw [List.getElem?_eq_none x] at hu
            cases hu
        have hg' : w.drew.heap[g]? = some (.cells cur E fz) := hg
        rw [Addr.add_lit, World.cell?, hg']
        simp [hread j hj, hu]
      have hfo := run_firstCells_some (P := P) w.drew i.size n ⟨g, off, none⟩ n cap xs hv.1 holds
      have hfit := growslice_fits (need := n + m) (old := cap) (bytes := i.bytes) (by omega) hbytes
      have h48 : ¬ (281474976710656 < Builtin.nextslicecap (n + m) cap * i.bytes) := by omega
      have hgr := grown cap (by omega)
      refine ⟨_, _, ?_, hgr, (((Mod.refl _ w).drew).alloc _), .inr rfl, by simp, fun A cap e hle => by cases e; omega⟩
      rcases hx.kind with ⟨ex, hd⟩ | hd <;> simp [Builtin.append_, run_underlying ht, run_underlying hd, sizeOf, typeInfo, zeroValue, hi, hz, hlo, hroom, h63', h48, Question.forced, hfcd, hfo, newRow, grownCap] <;> (congr 2; apply Array.ext'; simp [List.append_assoc])

end
section
variable {P : Program} {w : World}
/-- what an append leaves -/
def SlPost (w : World) (E : TypeId) (size n k : Nat) (xs : List Value) (v v' : Value) (w' : World) : Prop :=
  Sl w' E size v' k xs ∧ Mod (fun b => v.ownBlock = some b) w w' ∧ (v'.ownBlock = v.ownBlock ∨ v'.ownBlock = some w.heap.size) ∧ w'.heap.size ≤ w.heap.size + 1 ∧ (∀ A cap, v = .slice A n cap → k ≤ cap → v' = .slice A k cap)

theorem wp_append_sl {o : Oper} {a : Act} {K : Act → World → Prop} {Q : Exit → Act → World → Prop} (s y : Operand) (t tx : TypeId)
    (ho : o.op = .call { callee := .builtin .append, args := #[s, y], argTypes := #[t, tx] })
    (E : TypeId) (i : TypeInfo) (z : Value) (size bytes : Nat) (ht : P.underlying t = some (.slice E)) (hi : P.info? E = some i) (hz : i.zero = some z)
    (hsize : i.size = size) (hby : i.bytes = bytes) (hzs : z.cells.size = size)
    (v : Value) (n : Nat) (xs : List Value) (hs : a.eval s = v) (hv : Sl w E size v n xs) (x : Value) (m : Nat) (news : List Value) (hy : a.eval y = x) (hx : Src P w size tx x m news)
    (h63 : n + m ≤ maxLen) (hbytes : (n + m) * bytes ≤ 140737488355328)
    (h : ∀ v' w', SlPost w E size n (n + m) (xs ++ news) v v' w' → K (a.put o.dst v') w') : o.wp P a w K Q := by
  obtain ⟨v', w', hr, h1, h2, h3, h4, h5⟩ := run_append_sl t tx o.type i z bytes ht hi hz hsize hby hzs hv hx h63 hbytes
  unfold Oper.wp execOp
  simp only [ho, resolve, invoke, builtin, Sem.run_bind, Sem.run_pure, Result.andThen_ok, List.map_toArray, List.map_cons, List.map_nil, hs, hy, hr]
  exact h v' w' ⟨h1, h2, h3, h4, h5⟩

theorem wpList_append_sl {ops : Array Oper} {rest : List Oper} {o : Oper} {a : Act} {Q : Exit → Act → World → Prop} (hgd : o.guard = none) (s y : Operand) (t tx : TypeId)
    (ho : o.op = .call { callee := .builtin .append, args := #[s, y], argTypes := #[t, tx] })
    (E : TypeId) (i : TypeInfo) (z : Value) (size bytes : Nat) (ht : P.underlying t = some (.slice E)) (hi : P.info? E = some i) (hz : i.zero = some z)
    (hsize : i.size = size) (hby : i.bytes = bytes) (hzs : z.cells.size = size)
    (v : Value) (n : Nat) (xs : List Value) (hs : a.eval s = v) (hv : Sl w E size v n xs) (x : Value) (m : Nat) (news : List Value) (hy : a.eval y = x) (hx : Src P w size tx x m news)
    (h63 : n + m ≤ maxLen) (hbytes : (n + m) * bytes ≤ 140737488355328)
    (h : ∀ v' w', SlPost w E size n (n + m) (xs ++ news) v v' w' → wpList P ops Q rest (a.put o.dst v') w') : wpList P ops Q (o :: rest) a w :=
  wpList_plain hgd fun _ hK => wp_append_sl s y t tx ho E i z size bytes ht hi hz hsize hby hzs v n xs hs hv x m news hy hx h63 hbytes fun v' w' h2 => hK _ _ (h v' w' h2)

theorem step_append_sl {ops : Array Oper} {o : Oper} {a : Act} {K : Act → World → Prop} {Q : Exit → Act → World → Prop} {B : Prop} (hgd : o.guard = none) (s y : Operand) (t tx : TypeId)
    (ho : o.op = .call { callee := .builtin .append, args := #[s, y], argTypes := #[t, tx] })
    (E : TypeId) (i : TypeInfo) (z : Value) (size bytes : Nat) (ht : P.underlying t = some (.slice E)) (hi : P.info? E = some i) (hz : i.zero = some z)
    (hsize : i.size = size) (hby : i.bytes = bytes) (hzs : z.cells.size = size)
    (v : Value) (n : Nat) (xs : List Value) (hs : a.eval s = v) (hv : Sl w E size v n xs) (x : Value) (m : Nat) (news : List Value) (hy : a.eval y = x) (hx : Src P w size tx x m news)
    (h63 : n + m ≤ maxLen) (hbytes : (n + m) * bytes ≤ 140737488355328)
    (h : ∀ v' w', SlPost w E size n (n + m) (xs ++ news) v v' w' → K (a.put o.dst v') w') :
    if Region.wanted o (yielded ops a.tmps) = true then Oper.wp P o a w K Q else B := by
  rw [if_pos (by simp [Region.wanted, hgd])]
  exact wp_append_sl s y t tx ho E i z size bytes ht hi hz hsize hby hzs v n xs hs hv x m news hy hx h63 hbytes h

/-- what clear leaves of a block: what lies before is as it was -/
def ClearPost (w : World) (E : TypeId) (g off : Nat) (cur : Array Value) (fz : Nat × Nat) (w' : World) : Prop :=
  ∃ cur' : Array Value, w'.heap[g]? = some (.cells cur' E fz) ∧ cur'.size = cur.size ∧ (∀ j, j < off → cur'[j]? = cur[j]?) ∧ Mod (· = g) w w'

theorem zeroCells_one (z : Array Value) (hz : ∀ u ∈ z.toList, u.oneCell' = true) (n : Nat) (h0 : 0 < z.size) : ∀ u ∈ (Builtin.zeroCells z n).toList, u.oneCell' = true := by
  intro u hu
  simp only [Builtin.zeroCells, Array.toList_map, List.mem_map] at hu
  obtain ⟨k, _, rfl⟩ := hu
  have : k % z.size < z.size := Nat.mod_lt _ h0
  refine hz _ ?_
  rw [getElem!_pos z _ this]
  simp

theorem wpList_clear_sl {ops : Array Oper} {rest : List Oper} {o : Oper} {a : Act} {Q : Exit → Act → World → Prop} (hgd : o.guard = none) (s : Operand) (t : TypeId)
    (ho : o.op = .call { callee := .builtin .clear, args := #[s], argTypes := #[t] })
    (E : TypeId) (i : TypeInfo) (z : Value) (size : Nat) (ht : P.underlying t = some (.slice E)) (hi : P.info? E = some i) (hz : i.zero = some z)
    (hzs : z.cells.size = size) (hz1 : ∀ u ∈ z.cells.toList, u.oneCell' = true) (hpos : 0 < size)
    (g off n c : Nat) (cur : Array Value) (hs : a.eval s = .slice (some ⟨g, off, none⟩) n c) (hn : 0 < n) {fz : Nat × Nat} (hg : w.heap[g]? = some (.cells cur E fz)) (hfz : FreeZ cur.size fz) (hfit : off + n * size ≤ cur.size)
    (h : ∀ w', ClearPost w E g off cur fz w' → wpList P ops Q rest (a.put o.dst (.tuple #[])) w') : wpList P ops Q (o :: rest) a w := by
  refine wpList_plain hgd fun K hK => ?_
  have hlen : (Builtin.zeroCells z.cells n).toList.length = n * size := by simp [size_zeroCells, hzs]
  have hst := store_cells_free P g off E fz (Builtin.zeroCells z.cells n).toList 0 cur w hg hfz (by omega) (zeroCells_one _ hz1 _ (by omega))
  have hr : (Builtin.clear_ #[t] o.type #[.slice (some ⟨g, off, none⟩) n c]).run P w = .ok (.tuple #[]) (w.setRow g (cur.toList.take (off + 0) ++ (Builtin.zeroCells z.cells n).toList ++ cur.toList.drop (off + 0 + (Builtin.zeroCells z.cells n).toList.length)).toArray) := by
    obtain ⟨n, rfl⟩ : ∃ m, n = m + 1 := ⟨n - 1, by omega⟩
    simp [Builtin.clear_, run_underlying ht, zeroValue, typeInfo, hi, hz, hst]
  unfold Oper.wp execOp
  simp only [ho, resolve, invoke, builtin, Sem.run_bind, Sem.run_pure, Result.andThen_ok, List.map_toArray, List.map_cons, List.map_nil, hs, hr]
  refine hK _ _ (h _ ⟨_, setRow_heap w g cur _ E _ hg, ?_, fun j hj => ?_, ⟨rfl, rfl, rfl, by simp, fun k _ hk => setRow_other w g k _ hk⟩⟩)
  · have h1 : off + (Builtin.zeroCells z.cells n).toList.length ≤ cur.size := by omega
    generalize (Builtin.zeroCells z.cells n).toList = zl at h1
    simp only [List.size_toArray, List.length_append, List.length_take, List.length_drop, Array.length_toList, Nat.add_zero]
    omega
  · rw [List.getElem?_toArray, List.append_assoc, List.getElem?_append_left (by simp; omega), List.getElem?_take, if_pos (by omega), Array.getElem?_toList]
end
end Go.Proofs.Ytpbadpkleiogoaa
