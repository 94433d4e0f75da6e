/-
  The law WalFiles at the evaluator: it says true.
-/
import Derived.Test.YtbakhdgiimjnkaaGreatDoorWlC
import Derived.Test.YtbakhdgiimjnkaaGreatDoorCRef
import Derived.Test.YtbakhdgiimjnkaaGreatDoorEvA
import Derived.Test.YtbakhdgiimjnkaaGreatDoorEvSet
set_option linter.unusedVariables false
set_option linter.unusedSimpArgs false
namespace Go.Proofs.YtbakhdgiimjnkaaGreatDoor
open Abs
set_option maxHeartbeats 16000000
set_option maxRecDepth 20000
set_option linter.unusedSimpArgs false
attribute [local irreducible] Abs.Ev Abs.EvF Abs.EvO Abs.EvA Abs.Seq Abs.Blk Abs.Body Abs.Scp Abs.EvG Abs.EvAg Abs.Nx
attribute [local go_sem] Tryz.underlying3 Ty.sz3 Ty.by3 Ty.ag3 Ty.ze3 Tryz.underlying4 Ty.sz4 Ty.by4 Ty.ag4 Ty.ze4 Tryz.underlying5 Ty.sz5 Ty.by5 Ty.ag5 Ty.ze5 Tryz.underlying9 Ty.sz9 Ty.by9 Ty.ag9 Ty.ze9 Tryz.underlying28 Ty.sz28 Ty.by28 Ty.ag28 Ty.ze28 Tryz.underlying46 Ty.sz46 Ty.by46 Ty.ag46 Ty.ze46 Tryz.underlying59 Ty.sz59 Ty.by59 Ty.ag59 Ty.ze59 Tryz.underlying96 Ty.sz96 Ty.by96 Ty.ag96 Ty.ze96 Tryz.underlying117 Ty.sz117 Ty.by117 Ty.ag117 Ty.ze117
section
variable {Sm : Summ} {Q : Ans → Prop}
def preX : Nm := [120, 46]
theorem preX_ok : PreOk preX := ⟨by decide, by decide, by decide⟩
/-- all names are segments': what they are in order -/
theorem names_segs {V : Vw} {ks : List Nm} {p : Nm} {a m : Nat} (hs : Sorted V ks) (hv : Segs V p a m) (ha : 0 < a) (hm : a + m ≤ 1000000) (hall : ∀ nm, V nm ≠ none → ∃ k, 0 < k ∧ k < 1000000 ∧ nm = segN p k) : ks = (List.range' a m).map (segN p) := by
  rw [← nums_segs hs hv ha hm]
  have key : ∀ l : List Nm, (∀ k ∈ l, ∃ n, 0 < n ∧ n < 1000000 ∧ k = segN p n) → l = (numsOf p l).map (segN p) := by
    intro l
    induction l with
    | nil => intro _; rfl
    | cons k l ih =>
      intro h
      obtain ⟨n, h0, h6, rfl⟩ := h _ (List.mem_cons_self ..)
      have ih := ih fun k hk => h k (List.mem_cons_of_mem _ hk)
      unfold numsOf at ih ⊢
      rw [List.map_cons, numP_seg p h6, List.filter_cons_of_pos (by simpa using h0), List.map_cons, ← ih]
  exact key ks fun k hk => hall k ((hs.mem k).1 hk)
theorem seg_two {n : Nat} (h : n < 100) : segN preX n = [120, 46, 48, 48, 48, 48] ++ [UInt8.ofNat (48 + n / 10), UInt8.ofNat (48 + n % 10)] := by
  have key : ∀ n : Fin 100, segN preX n.val = [120, 46, 48, 48, 48, 48] ++ [UInt8.ofNat (48 + n.val / 10), UInt8.ofNat (48 + n.val % 10)] := by decide +kernel
  exact key ⟨n, h⟩
/-- what the disk holds: a log's segments, and nothing else -/
structure Fl (V : Vw) (W : List Rec) : Prop where
  at_ : ∀ k (h : k < W.length), ∃ z, V (segN preX (k + 1)) = some ⟨W[k], z⟩
  only : ∀ nm, V nm ≠ none → ∃ k, k < W.length ∧ nm = segN preX (k + 1)
theorem Fl.nothing {V : Vw} {W : List Rec} (h : Fl V W) {k : Nat} (hk : W.length < k) (h6 : k < 1000000) (hl : W.length < 900000) : V (segN preX k) = none := by
  cases e : V (segN preX k) with
  | none => rfl
  | some x =>
    obtain ⟨j, hj, e2⟩ := h.only (segN preX k) (by rw [e]; simp)
    have := segN_inj h6 (by omega) e2
    omega
theorem Fl.top {V : Vw} {W : List Rec} {w : Rec} (h : Fl V (W ++ [w])) : ∃ z, V (segN preX (W.length + 1)) = some ⟨w, z⟩ := by
  obtain ⟨z, hz⟩ := h.at_ W.length (by rw [List.length_append, List.length_singleton]; omega)
  exact ⟨z, by rw [hz]; simp⟩
theorem Fl.first : Fl (Vw.next (fun _ => none) preX 0) ([] ++ [[]]) := by
  refine ⟨fun k h => ?_, fun nm h => ?_⟩
  · obtain rfl : k = 0 := by simpa using h
    exact ⟨0, Vw.next_new _ preX 0⟩
  · refine ⟨0, by decide, Classical.byContradiction fun hne => h ?_⟩
    unfold Vw.next
    rw [if_neg (Nat.lt_irrefl _), Vw.off _ _ hne]
theorem Fl.put {V : Vw} {W : List Rec} {w F : Rec} {z : Nat} (h : Fl V (W ++ [w])) (hl : W.length < 900000) : Fl (V.set (segN preX (W.length + 1)) (some ⟨w ++ F, z⟩)) (W ++ [w ++ F]) := by
  refine ⟨fun k hk => ?_, fun nm hn => ?_⟩
  · rw [List.length_append, List.length_singleton] at hk
    by_cases e : k = W.length
    · subst e
      exact ⟨z, by rw [Vw.at]; simp⟩
    · obtain ⟨z', hz⟩ := h.at_ k (by rw [List.length_append, List.length_singleton]; omega)
      refine ⟨z', ?_⟩
      rw [Vw.off _ _ (seg_ne_seg (by omega) (by omega) (by omega)), hz, List.getElem_append_left (by omega), List.getElem_append_left (by omega)]
  · by_cases e : nm = segN preX (W.length + 1)
    · exact ⟨W.length, by rw [List.length_append, List.length_singleton]; omega, e⟩
    · rw [Vw.off _ _ e] at hn
      obtain ⟨k, hk, e⟩ := h.only nm hn
      exact ⟨k, by rw [List.length_append, List.length_singleton] at hk ⊢; exact hk, e⟩
theorem Fl.more {V : Vw} {W : List Rec} {w F : Rec} {z : Nat} (h : Fl V (W ++ [w])) (hl : W.length < 900000) : Fl ((V.next preX (W.length + 1)).set (segN preX (W.length + 1 + 1)) (some ⟨F, z⟩)) ((W ++ [w]) ++ [F]) := by
  obtain ⟨zt, hzt⟩ := h.top
  have hWl : (W ++ [w]).length = W.length + 1 := by rw [List.length_append, List.length_singleton]
  refine ⟨fun k hk => ?_, fun nm hn => ?_⟩
  · rw [List.length_append, List.length_singleton, hWl] at hk
    by_cases e : k = W.length + 1
    · subst e
      refine ⟨z, ?_⟩
      rw [Vw.at, List.getElem_append_right (by omega)]
      simp [hWl]
    · have hk' : k < (W ++ [w]).length := by omega
      by_cases e2 : k = W.length
      · subst e2
        refine ⟨w.length, ?_⟩
        rw [Vw.off _ _ (seg_ne_seg (by omega) (by omega) (by omega)), Vw.next_last (by omega) (by omega) hzt, List.getElem_append_left hk']
        simp
      · obtain ⟨z', hz⟩ := h.at_ k hk'
        refine ⟨z', ?_⟩
        rw [Vw.off _ _ (seg_ne_seg (by omega) (by omega) (by omega)), Vw.next_off V (seg_ne_seg (by omega) (by omega) (by omega)) (seg_ne_seg (by omega) (by omega) (by omega)), hz, List.getElem_append_left hk']
  · by_cases e : nm = segN preX (W.length + 1 + 1)
    · exact ⟨W.length + 1, by rw [List.length_append, List.length_singleton, hWl]; omega, e⟩
    · rw [Vw.off _ _ e] at hn
      by_cases e2 : nm = segN preX (W.length + 1)
      · exact ⟨W.length, by rw [List.length_append, List.length_singleton, hWl]; omega, e2⟩
      · rw [Vw.next_off V e e2] at hn
        obtain ⟨k, hk, e⟩ := h.only nm hn
        exact ⟨k, by rw [List.length_append, List.length_singleton]; omega, e⟩
theorem Fl.segs {V : Vw} {W : List Rec} (h : Fl V W) (hl : W.length < 900000) : Segs V preX 1 W.length := fun n n0 n6 => by
  constructor
  · intro hn
    obtain ⟨k, hk, e⟩ := h.only _ hn
    have := segN_inj n6 (by omega) e
    omega
  · rintro ⟨h1, h2⟩
    obtain ⟨z, hz⟩ := h.at_ (n - 1) (by omega)
    rw [show n - 1 + 1 = n by omega] at hz
    rw [hz]
    simp
/-- a list of texts that are put something behind: its block, and theirs, apart from others -/
structure Wnt (s : St) (lo : Nat) (X : Nat → Prop) (v : Value) (W : List Rec) (wb o : Nat) (w : List Value) (sz : Nat) (op : Bool) (vs : List Value) : Prop where
  blk : s.heap.get wb = some (.cells w 28 sz op (0, 0))
  val : v = .slice (some ⟨wb, o, none⟩) W.length (if op then open_ else W.length)
  cut : (w.drop o).take W.length = vs
  len : o + W.length ≤ w.length ∧ o < w.length
  sz1 : op = true → sz = 1
  out : ¬ X wb ∧ lo ≤ wb
  txt : AllT s lo vs W
  off : ∀ y ∈ vs, ∀ c, inBlk y c → ¬ X c ∧ lo ≤ c ∧ c ≠ wb
  one : ∀ (j k : Nat) (y z : Value) (c : Nat), vs[j]? = some y → vs[k]? = some z → owns y c → owns z c → j = k
theorem Wnt.src {s : St} {lo : Nat} {X : Nat → Prop} {v : Value} {W : List Rec} {wb o : Nat} {w : List Value} {sz : Nat} {op : Bool} {vs : List Value} (h : Wnt s lo X v W wb o w sz op vs) : srcCells s.heap 1 v = .ok (W.length, vs) := by
  rw [h.val]
  show (match s.heap.get wb with
    | some (.cells l _ _ _ _) => (Rs.of 75 (cutN l o (W.length * 1))).bind fun cs => Rs.ok (W.length, cs)
    | some (.const l _) => (Rs.of 75 (cutN l o (W.length * 1))).bind fun cs => Rs.ok (W.length, cs)
    | _ => .no 75 "") = _
  rw [h.blk]
  show (Rs.of 75 (cutN w o (W.length * 1))).bind _ = _
  have := h.len
  rw [cutN_eq, Nat.mul_one, if_pos (by omega), h.cut]
  rfl
theorem Wnt.vec {s : St} {lo : Nat} {X : Nat → Prop} {v : Value} {W : List Rec} {wb o : Nat} {w : List Value} {sz : Nat} {op : Bool} {vs : List Value} (h : Wnt s lo X v W wb o w sz op vs) : Vec s 28 1 v W.length vs := by
  have hs := h.src
  have hv := h.val
  have hb := h.blk
  have h1 := h.sz1
  cases op with
  | false => rw [hv] at hs ⊢; exact .full hs
  | true =>
    rw [hv]
    rw [h1 rfl] at hb
    exact .room hb (Nat.mod_one _) (by rw [Nat.mul_one]; exact h.len) (by rw [Nat.mul_one]; exact h.cut)
theorem Wnt.texts {s : St} {lo : Nat} {X : Nat → Prop} {v : Value} {W : List Rec} {wb o : Nat} {w : List Value} {sz : Nat} {op : Bool} {vs : List Value} (h : Wnt s lo X v W wb o w sz op vs) : Texts s v W :=
  ⟨vs, h.src, ⟨_, _, h.val⟩, h.txt.1, fun i v l e1 e2 => (h.txt.2 i v l e1 e2).bytes⟩
theorem TxtB.via {s s' : St} {lo : Nat} {v : Value} {l : List UInt8} (h : TxtB s lo v l) (hk : ∀ b x, inBlk v b → s.heap.get b = some x → s'.heap.get b = some x) : TxtB s' lo v l := by
  cases h with
  | nil => exact .nil
  | zero h => exact .zero (hk _ _ ⟨_, _, _, rfl⟩ h)
  | own h hl hb => exact .own (hk _ _ ⟨_, _, _, rfl⟩ h) hl hb
theorem txt_blk {s : St} {lo : Nat} {v : Value} {l : List UInt8} (h : TxtB s lo v l) {c : Nat} (hc : inBlk v c) : ∃ x, s.heap.get c = some x ∧ ∀ k, x ≠ .cells k 28 1 true (0, 0) := by
  cases h with
  | nil => obtain ⟨_, _, _, e⟩ := hc; cases e
  | zero h => obtain ⟨_, _, _, e⟩ := hc; cases e; exact ⟨_, h, fun k e => by cases e⟩
  | own h hl hb => obtain ⟨_, _, _, e⟩ := hc; cases e; exact ⟨_, h, fun k e => by cases e⟩
theorem AllT.get {s : St} {lo : Nat} {vs : List Value} {ps : List Rec} (h : AllT s lo vs ps) {y : Value} (hy : y ∈ vs) : ∃ l, TxtB s lo y l := by
  obtain ⟨i, hi, rfl⟩ := List.getElem_of_mem hy
  exact ⟨ps[i]'(by rw [← h.1]; exact hi), h.2 i _ _ (List.getElem?_eq_getElem hi) (List.getElem?_eq_getElem _)⟩
theorem Wnt.mv {s s' : St} {lo : Nat} {X X' : Nat → Prop} {v : Value} {W : List Rec} {wb o : Nat} {w : List Value} {sz : Nat} {op : Bool} {vs : List Value} (hwf : s.wf) (h : Wnt s lo X v W wb o w sz op vs) (mv : Mv X X' s s') : Wnt s' lo X' v W wb o w sz op vs := by
  refine ⟨mv.old _ _ h.out.1 h.blk, h.val, h.cut, h.len, h.sz1, ⟨mv.off hwf h.blk h.out.1, h.out.2⟩, ⟨h.txt.1, fun i y l e1 e2 => (h.txt.2 i y l e1 e2).via fun b x hb hx => mv.old b x (h.off y (List.mem_of_getElem? e1) b hb).1 hx⟩, fun y hy c hc => ?_, h.one⟩
  obtain ⟨l, tx⟩ := h.txt.get hy
  obtain ⟨x, hx, _⟩ := txt_blk tx hc
  obtain ⟨a1, a2⟩ := h.off y hy c hc
  exact ⟨mv.off hwf hx a1, a2⟩
theorem txt_owns {s : St} {lo : Nat} {y z : Value} {l m : List UInt8} (hy : TxtB s lo y l) (hz : TxtB s lo z m) {c : Nat} (h1 : owns y c) (h2 : inBlk z c) : owns z c := by
  obtain ⟨n, rfl⟩ := h1
  cases hy with
  | own hb hl _ =>
    cases hz with
    | nil => obtain ⟨_, _, _, e⟩ := h2; cases e
    | zero hb' =>
      obtain ⟨_, _, _, e⟩ := h2
      cases e
      rw [hb'] at hb
      exact absurd hb (by simp)
    | own hb' _ _ =>
      obtain ⟨_, _, _, e⟩ := h2
      cases e
      exact ⟨_, rfl⟩
theorem txt_veq {s : St} {lo : Nat} {v : Value} {l : List UInt8} (h : TxtB s lo v l) : vEq2 v v = true := by
  cases h with
  | nil => exact vEq2_nils 0 0
  | zero _ => exact vEq2_slice _ _ _ _
  | own _ _ _ => exact vEq2_slice _ _ _ _
theorem u8_lit2 (a b : Int) : aSliceLit Tryz.prog 5 2 [(0, .int .u8 a), (1, .int .u8 b)] = .ok (.cells [.int .u8 a, .int .u8 b] 5 0 false (0, 0), fun n => .slice (some ⟨n, 0, none⟩) 2 2) := by kernel_rfl
theorem cells_two {a b : Nat} {x y : Int} (hx : x = (a : Int)) (hy : y = (b : Int)) (ha : a < 256) (hb : b < 256) : (cutN [Value.int .u8 x, Value.int .u8 y] 0 2).bind cellBytes = some [UInt8.ofNat a, UInt8.ofNat b] := by
  subst hx hy
  have e : [Value.int .u8 (a : Int), Value.int .u8 (b : Int)] = byteCells [UInt8.ofNat a, UInt8.ofNat b] := by
    rw [byteCells_eq]
    simp only [List.map_cons, List.map_nil, UInt8.toNat_ofNat', Nat.reducePow, Nat.mod_eq_of_lt ha, Nat.mod_eq_of_lt hb]
    rfl
  rw [e]
  show (cutN (byteCells [UInt8.ofNat a, UInt8.ofNat b]) 0 [UInt8.ofNat a, UInt8.ofNat b].length).bind cellBytes = _
  rw [cut_all (byteCells_len _)]
  exact cellBytes_byteCells _
theorem Wnt.put {s s6 : St} {lo : Nat} {X : Nat → Prop} {v : Value} {W0 : List Rec} {l F : Rec} {wb o : Nat} {w : List Value} {sz : Nat} {op : Bool} {vs0 : List Value} {y : Value} (hwf : s.wf) (h : Wnt s lo X v (W0 ++ [l]) wb o w sz op (vs0 ++ [y])) (hlo : lo ≤ s.next) (hX : ∀ c, X c → c < s.next) (hF : F ≠ [])
    (q1 : s6.heap.get s.next = some (.cells (byteCells (l ++ F)) 5 1 true (0, 0))) (q4 : ∀ b z, s.heap.get b = some z → ¬ owns y b → s6.heap.get b = some z) :
    Wnt ⟨s6.heap.set wb (.cells (w.set (o + W0.length) (.slice (some ⟨s.next, 0, none⟩) (l ++ F).length open_)) 28 sz op (0, 0)), s6.next⟩ lo X v (W0 ++ [l ++ F]) wb o (w.set (o + W0.length) (.slice (some ⟨s.next, 0, none⟩) (l ++ F).length open_)) sz op (vs0 ++ [.slice (some ⟨s.next, 0, none⟩) (l ++ F).length open_]) := by
  have hl1 : (W0 ++ [l]).length = W0.length + 1 := by rw [List.length_append, List.length_singleton]
  have hl2 : (W0 ++ [l ++ F]).length = W0.length + 1 := by rw [List.length_append, List.length_singleton]
  have hvl : vs0.length = W0.length := by
    have := h.txt.1
    rw [List.length_append, List.length_append, List.length_singleton, List.length_singleton] at this
    omega
  have hwbn : wb < s.next := hwf _ _ h.blk
  have hcut := h.cut
  have hlen := h.len
  rw [hl1] at hcut hlen
  have eltlt : ∀ z ∈ vs0 ++ [y], ∀ c, inBlk z c → c < s.next := fun z hz c hc => by
    obtain ⟨m, tx⟩ := h.txt.get hz
    obtain ⟨x, hx, _⟩ := txt_blk tx hc
    exact hwf _ _ hx
  have hyT : TxtB s lo y l := h.txt.2 vs0.length y l (by simp) (by rw [hvl]; simp)
  have keepE : ∀ (i : Nat) (z : Value) (m : List UInt8), vs0[i]? = some z → W0[i]? = some m → TxtB ⟨s6.heap.set wb (.cells (w.set (o + W0.length) (.slice (some ⟨s.next, 0, none⟩) (l ++ F).length open_)) 28 sz op (0, 0)), s6.next⟩ lo z m := fun i z m e1 e2 => by
    obtain ⟨hi, _⟩ := List.getElem?_eq_some_iff.1 e1
    have e1' : (vs0 ++ [y])[i]? = some z := by rw [List.getElem?_append_left hi]; exact e1
    have tx : TxtB s lo z m := h.txt.2 i z m e1' (by rw [List.getElem?_append_left (by omega)]; exact e2)
    refine tx.via fun b x hb hx => ?_
    have hne := (h.off z (List.mem_of_getElem? e1') b hb).2.2
    show (s6.heap.set wb _).get b = _
    rw [get_other _ _ _ _ hne]
    refine q4 b x hx fun ho => ?_
    have := h.one i vs0.length z y b e1' (by simp) (txt_owns hyT tx ho hb) ho
    omega
  refine ⟨get_same _ _ _, by rw [hl2, ← hl1]; exact h.val, ?_, by rw [hl2, List.length_set]; exact hlen, h.sz1, h.out, ⟨by rw [List.length_append, List.length_singleton, hl2, hvl], fun i z m e1 e2 => ?_⟩, fun z hz c hc => ?_, fun j k z z' c e1 e2 o1 o2 => ?_⟩
  · rw [hl2, List.drop_set, if_neg (by omega), List.take_set, hcut, show o + W0.length - o = vs0.length by omega, List.set_append_right _ _ (Nat.le_refl _), Nat.sub_self]
    rfl
  · by_cases hi : i < vs0.length
    · rw [List.getElem?_append_left hi] at e1
      rw [List.getElem?_append_left (by omega)] at e2
      exact keepE i z m e1 e2
    · obtain ⟨hi2, _⟩ := List.getElem?_eq_some_iff.1 e1
      rw [List.length_append, List.length_singleton] at hi2
      obtain rfl : i = vs0.length := by omega
      rw [List.getElem?_append_right (Nat.le_refl _), Nat.sub_self] at e1
      rw [hvl, List.getElem?_append_right (Nat.le_refl _), Nat.sub_self] at e2
      cases e1
      cases e2
      refine .own ?_ (fun e => hF (List.append_eq_nil_iff.1 e).2) hlo
      show (s6.heap.set wb _).get s.next = _
      rw [get_other _ _ _ _ (by omega)]
      exact q1
  · rcases List.mem_append.1 hz with hz | hz
    · exact h.off z (List.mem_append_left _ hz) c hc
    · obtain rfl := List.mem_singleton.1 hz
      obtain ⟨_, _, _, e⟩ := hc
      cases e
      exact ⟨fun hx => by have := hX _ hx; omega, hlo, by omega⟩
  · have new : ∀ (j : Nat) (z : Value), (vs0 ++ [Value.slice (some ⟨s.next, 0, none⟩) (l ++ F).length open_])[j]? = some z → (j < vs0.length ∧ (vs0 ++ [y])[j]? = some z) ∨ (j = vs0.length ∧ z = .slice (some ⟨s.next, 0, none⟩) (l ++ F).length open_) := fun j z e => by
      by_cases hj : j < vs0.length
      · rw [List.getElem?_append_left hj] at e
        exact .inl ⟨hj, by rw [List.getElem?_append_left hj]; exact e⟩
      · obtain ⟨hj2, _⟩ := List.getElem?_eq_some_iff.1 e
        rw [List.length_append, List.length_singleton] at hj2
        obtain rfl : j = vs0.length := by omega
        rw [List.getElem?_append_right (Nat.le_refl _), Nat.sub_self] at e
        cases e
        exact .inr ⟨rfl, rfl⟩
    rcases new j z e1 with ⟨a1, a2⟩ | ⟨a1, rfl⟩ <;> rcases new k z' e2 with ⟨b1, b2⟩ | ⟨b1, rfl⟩
    · exact h.one j k z z' c a2 b2 o1 o2
    · obtain ⟨_, e⟩ := o2
      cases e
      have := eltlt z (List.mem_of_getElem? a2) _ (by obtain ⟨n, e⟩ := o1; exact ⟨0, n, open_, e⟩)
      omega
    · obtain ⟨_, e⟩ := o1
      cases e
      have := eltlt z' (List.mem_of_getElem? b2) _ (by obtain ⟨n, e⟩ := o2; exact ⟨0, n, open_, e⟩)
      omega
    · omega
theorem Wnt.push {s s2 s3 : St} {lo : Nat} {X : Nat → Prop} {v v3 : Value} {W : List Rec} {wb o : Nat} {w : List Value} {sz : Nat} {op : Bool} {vs : List Value} {bz : Nat} (hwf : s.wf) (h : Wnt s lo X v W wb o w sz op vs) (hlo : lo ≤ s.next) (hX : ∀ c, X c → c < s.next) (hsm : W.length + 1 < open_) (k2 : Keep s s2) (hz : s2.heap.get bz = some (.cells [] 5 0 false (0, 0))) (hzn : s.next ≤ bz ∧ bz < s2.next)
    (p1 : Vec s3 28 1 v3 (W.length + 1) (vs ++ [.slice (some ⟨bz, 0, none⟩) 0 0])) (p2 : ∃ b o, v3 = .slice (some ⟨b, o, none⟩) (W.length + 1) open_ ∧ (b = s2.next ∨ inRoom v b)) (p5 : SameBut 28 1 s2 s3) :
    ∃ wb' o' w', Wnt s3 lo X v3 (W ++ [[]]) wb' o' w' 1 true (vs ++ [.slice (some ⟨bz, 0, none⟩) 0 0]) := by
  obtain ⟨b, o', rfl, hb⟩ := p2
  obtain ⟨w', hb3, ho3, hl3, hc3⟩ : ∃ w', s3.heap.get b = some (.cells w' 28 1 true (0, 0)) ∧ o' % 1 = 0 ∧ (o' + (W.length + 1) * 1 ≤ w'.length ∧ o' < w'.length) ∧ (w'.drop o').take ((W.length + 1) * 1) = vs ++ [.slice (some ⟨bz, 0, none⟩) 0 0] := by
    generalize W.length + 1 = n at *
    cases p1 with
    | full h => exact absurd hsm (Nat.lt_irrefl _)
    | room hb ho hl hc => exact ⟨_, hb, ho, hl, hc⟩
  rw [Nat.mul_one] at hl3 hc3
  have hwbn : wb < s.next := hwf _ _ h.blk
  have hn2 := k2.next
  have hbw : b = s2.next ∨ b = wb := hb.imp id fun hr => by
    obtain ⟨_, _, e⟩ := hr
    rw [h.val] at e
    injection e with e1 _ _
    cases e1
    rfl
  have eltlt : ∀ z ∈ vs, ∀ c, inBlk z c → c < s.next := fun z hz c hc => by
    obtain ⟨m, tx⟩ := h.txt.get hz
    obtain ⟨x, hx, _⟩ := txt_blk tx hc
    exact hwf _ _ hx
  have hl1 : (W ++ [([] : Rec)]).length = W.length + 1 := by rw [List.length_append, List.length_singleton]
  have hnz : ∀ c, ¬ owns (.slice (some ⟨bz, 0, none⟩) 0 0) c := by
    rintro c ⟨n, e⟩
    cases e
  refine ⟨b, o', w', hb3, by rw [hl1]; rfl, by rw [hl1]; exact hc3, by rw [hl1]; exact hl3, fun _ => rfl, ?_, ((h.txt.mono k2.old).but p5).snoc (.zero (p5 _ _ hz (by intro l e; cases e))), fun z hz' c hc => ?_, fun j k z z' c e1 e2 o1 o2 => ?_⟩
  · rcases hbw with rfl | rfl
    · exact ⟨fun hx => by have := hX _ hx; omega, by omega⟩
    · exact h.out
  · rcases List.mem_append.1 hz' with hz' | hz'
    · obtain ⟨a1, a2, a3⟩ := h.off z hz' c hc
      have := eltlt z hz' c hc
      exact ⟨a1, a2, by rcases hbw with rfl | rfl <;> omega⟩
    · obtain rfl := List.mem_singleton.1 hz'
      obtain ⟨_, _, _, e⟩ := hc
      cases e
      exact ⟨fun hx => by have := hX _ hx; omega, by omega, by rcases hbw with rfl | rfl <;> omega⟩
  · have new : ∀ (j : Nat) (z : Value), (vs ++ [Value.slice (some ⟨bz, 0, none⟩) 0 0])[j]? = some z → owns z c → vs[j]? = some z := fun j z e ho => by
      by_cases hj : j < vs.length
      · rw [List.getElem?_append_left hj] at e
        exact e
      · exfalso
        obtain ⟨hj2, _⟩ := List.getElem?_eq_some_iff.1 e
        rw [List.length_append, List.length_singleton] at hj2
        obtain rfl : j = vs.length := by omega
        rw [List.getElem?_append_right (Nat.le_refl _), Nat.sub_self] at e
        cases e
        exact hnz c ho
    exact h.one j k z z' c (new j z e1 o1) (new k z' e2 o2) o1 o2
theorem Wnt.last {s : St} {lo : Nat} {X : Nat → Prop} {v : Value} {W0 : List Rec} {l : Rec} {wb o : Nat} {w : List Value} {sz : Nat} {op : Bool} {vs0 : List Value} {y : Value} (h : Wnt s lo X v (W0 ++ [l]) wb o w sz op (vs0 ++ [y])) : w[o + W0.length]? = some y ∧ TxtB s lo y l := by
  have hvl : vs0.length = W0.length := by
    have := h.txt.1
    rw [List.length_append, List.length_append, List.length_singleton, List.length_singleton] at this
    omega
  have hl1 : (W0 ++ [l]).length = W0.length + 1 := by rw [List.length_append, List.length_singleton]
  have hcut := h.cut
  rw [hl1] at hcut
  constructor
  · have h1 : (vs0 ++ [y])[W0.length]? = some y := by rw [← hvl]; simp
    rw [← hcut, List.getElem?_take_of_lt (by omega), List.getElem?_drop] at h1
    exact h1
  · exact h.txt.2 vs0.length y l (by simp) (by rw [hvl]; simp)
theorem xappend_ev (hn : NoWL Sm) {s0 s : St} (h0 : s0.wf) (hT : P10At s0) {O : Nat → Prop} {lb b : Nat} {M rec t : Nat} {V : Vw} {W0 : List Rec} {w : Rec} (hl : Lg s0 s O lb b preX M 1 (W0.length + 1) w.length rec 1048576 V t (W0.length + 1) 0) (hM : M ≤ 1000) (hf : Fl V (W0 ++ [w])) (hW : W0.length ≤ 60) (hw : w.length ≤ 3008) (ht : t ≤ 200000) (hrec : rec ≤ 60)
    {pv : Value} {r : List UInt8} (hpv : BytesB s pv r) (hrl : r.length ≤ 2000)
    (h : ∀ s' O' V' W1 w1, Mw lb O O' s s' → Lg s0 s' O' lb b preX M 1 (W1.length + 1) (w1 ++ frameB r).length (rec + 1) 1048576 V' (t + (8 + r.length)) (W1.length + 1) 0 → Fl V' (W1 ++ [w1 ++ frameB r]) → (w.length < M ∧ W1 = W0 ∧ w1 = w) ∨ (M ≤ w.length ∧ W1 = W0 ++ [w] ∧ w1 = []) → Q (.val (.int .i64 0) s')) :
    Ev Tryz.prog Sm (.inv (.fn (.func 33) #[]) [.pointer (some ⟨lb, 0, none⟩), pv] s) Q := by
  obtain ⟨z, hz⟩ := hf.top
  have hWl : (W0 ++ [w]).length = W0.length + 1 := by rw [List.length_append, List.length_singleton]
  have fl := frameB_len r
  refine wappend_ev hn h0 hT hl (Nat.zero_le _) preX_ok (by decide) ⟨by omega, by omega⟩ (by omega) ⟨by decide, by decide⟩ hz (by simp only; omega) (hf.nothing (by omega) (by omega) (by omega)) hpv (by omega) (by omega) (by omega) (fun _ hlt => absurd hlt (by omega)) (fun hb hle s' O' mw hl' => ?_) (fun _ hlt => absurd hlt (by omega)) (fun hb hle s' O' mw hl' => ?_)
  · have e : (w ++ frameB r).length = w.length + (8 + r.length) := by rw [List.length_append, fl]
    rw [← e] at hl'
    exact h s' O' _ W0 w mw hl' (hf.put (by omega)) (.inl ⟨hb, rfl, rfl⟩)
  · have e : (([] : List UInt8) ++ frameB r).length = 8 + r.length := by rw [List.nil_append, fl]
    have hl2 : Lg s0 s' O' lb b preX M 1 ((W0 ++ [w]).length + 1) (([] : List UInt8) ++ frameB r).length (rec + 1) 1048576 ((V.next preX (W0.length + 1)).set (segN preX (W0.length + 1 + 1)) (some ⟨frameB r, 0⟩)) (t + (8 + r.length)) ((W0 ++ [w]).length + 1) 0 := by
      rw [e, hWl]
      exact hl'
    exact h s' O' _ (W0 ++ [w]) [] mw hl2 (by rw [List.nil_append]; exact hf.more (by omega)) (.inr ⟨hb, rfl, rfl⟩)
theorem wf_setC {s : St} (h : s.wf) {b : Nat} {x : AObj} (hb : s.heap.get b = some x) (y : AObj) : (⟨s.heap.set b y, s.next⟩ : St).wf := fun c z e => by
  by_cases hc : c = b
  · subst hc; exact h _ _ hb
  · rw [show (⟨s.heap.set b y, s.next⟩ : St).heap.get c = (s.heap.set b y).get c from rfl, get_other _ _ _ _ hc] at e
    exact h _ _ e
attribute [local go_sem] u8_lit0 u8_lit2
set_option maxRecDepth 20000 in
theorem walFiles_ev (hn : NoWO Sm) (hr : NoCRef Sm) (hF : Sm 9 = none) {g : List Value → St → Rs (Value × St)} (hA : Sm 31 = some g) {s : St} (hg : ∀ s', Keep s s' → g [] s' = .ok (.bool true, s')) (hwf : s.wf) (hT : P10At s) {lv : Value} {ls : List Rec} (hl : Texts s lv ls) (most : Int) :
    Ev Tryz.prog Sm (.inv (.fn (.func 9) #[]) [lv, .int .i64 most] s) fun r => ∃ s', r = .val (.bool true) s' := by
  refine Ev.func hF Tryz.func9 rfl (m := 166) rfl ?_
  simp only [Array.toList_empty, List.append_nil, ofList_cons, ofList_nil]
  obtain ⟨lvs, l1, ⟨la, lc, rfl⟩, l2⟩ := id hl
  (try first | refine EvO.nx ?_ | refine EvA.nx ?_); repeat' (first | refine Abs.go ?_ | with_reducible refine Abs.fork (fun hb => ?_) (fun hb => ?_))
  refine Ev.summ hA (hg s (Keep.refl hwf)) ⟨_, _, rfl, ?_⟩
  by_cases hc : 64 ≤ most ∧ most ≤ 1000 ∧ ls.length ≤ 60
  · obtain ⟨c1, c2, c3⟩ := hc
    obtain ⟨M, rfl⟩ : ∃ M : Nat, most = (M : Int) := ⟨most.toNat, by omega⟩
    (try first | refine EvO.nx ?_ | refine EvA.nx ?_); repeat' (first | refine Abs.go ?_ | with_reducible refine Abs.fork (fun hb => ?_) (fun hb => ?_))
    refine vnew_ev hn.wl.wn.disk hwf (by decide) fun s1 O1 b dk1 => ⟨_, _, rfl, ?_⟩
    (try first | refine EvO.nx ?_ | refine EvA.nx ?_); repeat' (first | refine Abs.go ?_ | with_reducible refine Abs.fork (fun hb => ?_) (fun hb => ?_))
    refine wopen_ev (most := M) hn hwf hT dk1 preX_ok (by omega) (a := 1) (cnt := 0) (en := 0) (by decide) (by decide) (by decide) (fun n n0 n6 => ⟨fun h => absurd rfl h, fun h => by omega⟩) (Nat.le_refl _) (fun h => absurd h (Nat.lt_irrefl _)) (fun k h1 h2 => by omega) (.inl rfl) (by decide) (fun h => absurd h (Nat.lt_irrefl _)) fun _ lb rv s2 O2 V1 t1 m1 mv2 hlb hl2 hg2 hb2 hro2 => ⟨_, _, rfl, ?_⟩
    obtain rfl := hg2.all
    simp only [if_pos] at hl2
    obtain ⟨ht1, hm1⟩ := hb2
    obtain rfl : t1 = 0 := by omega
    obtain rfl : m1 = 0 := by omega
    clear hro2 hg2 mv2 dk1
    have hwf2 := hl2.dk.keep.wf
    have hn2 := hl2.dk.keep.next
    have hlbn := hl2.at_.lt hwf2
    (try first | refine EvO.nx ?_ | refine EvA.nx ?_); repeat' (first | refine Abs.go ?_ | with_reducible refine Abs.fork (fun hb => ?_) (fun hb => ?_))
    have kz := (Keep.refl hwf2).new (.cells [] 5 0 false (0, 0))
    have kw := kz.new (.cells [.slice (some ⟨s2.next, 0, none⟩) 0 0] 28 0 false (0, 0))
    have hX2 : ∀ c, (O2 c ∨ c = lb) → c < s2.next := fun c hc => hc.elim (fun h => hl2.dk.lt h) fun e => e ▸ hlbn
    have hW2 : Wnt ⟨(s2.heap.set s2.next (.cells [] 5 0 false (0, 0))).set (s2.next + 1) (.cells [.slice (some ⟨s2.next, 0, none⟩) 0 0] 28 0 false (0, 0)), s2.next + 1 + 1⟩ s.next (fun c => O2 c ∨ c = lb) (.slice (some ⟨s2.next + 1, 0, none⟩) 1 1) ([] ++ [[]]) (s2.next + 1) 0 [.slice (some ⟨s2.next, 0, none⟩) 0 0] 0 false ([] ++ [.slice (some ⟨s2.next, 0, none⟩) 0 0]) := by
      refine ⟨get_same _ _ _, rfl, rfl, ⟨by simp, by simp⟩, (fun e => by cases e), ⟨fun hx => by have := hX2 _ hx; omega, by omega⟩, ⟨rfl, fun i y l e1 e2 => ?_⟩, fun y hy c hc => ?_, fun j k y z c e1 e2 o1 o2 => ?_⟩
      · cases i with
        | zero =>
          cases e1
          cases e2
          exact .zero (get_old (b := s2.next) (c := s2.next + 1) (get_same _ _ _) (Nat.ne_of_lt (Nat.lt_succ_self _)))
        | succ i => simp at e1
      · obtain rfl := List.mem_singleton.1 hy
        obtain ⟨_, _, _, e⟩ := hc
        cases e
        exact ⟨fun hx => by have := hX2 _ hx; omega, by omega, by omega⟩
      · obtain rfl := List.mem_singleton.1 (List.mem_of_getElem? e1)
        obtain ⟨n, e⟩ := o1
        cases e
    refine Ev.loop (fun k a' s' => ∃ T, ∃ i : Nat, ∃ wv O V, ∃ tt : Nat, ∃ W0 w wb o ws sz op vs0 y, a' = ⟨T, 166, []⟩ ∧ T.get 0 = some (.slice la ls.length lc) ∧ T.get 1 = some (.int .i64 (M : Int)) ∧ T.get 5 = some (.pointer (some ⟨b, 0, none⟩)) ∧ T.get 7 = some (.pointer (some ⟨lb, 0, none⟩)) ∧ T.get 10 = some wv ∧ T.get 11 = some (.int .i64 ((i : Nat) : Int)) ∧ i ≤ ls.length ∧ k = ls.length - i ∧
        Lg s s' O lb b preX M 1 (W0.length + 1) (w : Rec).length i 1048576 V tt (W0.length + 1) 0 ∧ Fl V (W0 ++ [w]) ∧ Wnt s' s.next (fun c => O c ∨ c = lb) wv (W0 ++ [w]) wb o ws sz op (vs0 ++ [y]) ∧ tt ≤ 2008 * i ∧ W0.length ≤ i ∧ w.length ≤ 3008) (k := ls.length)
      ⟨_, 0, .slice (some ⟨s2.next + 1, 0, none⟩) 1 1, O2, _, 0, [], [], s2.next + 1, 0, _, 0, false, [], _, rfl, ?g0, ?g1, ?g5, ?g7, ?g10, ?g11, Nat.zero_le _, rfl, hl2.old kw, Fl.first, hW2, Nat.zero_le _, Nat.zero_le _, Nat.zero_le _⟩ ?_
    case g0 => simp (disch := first | omega | assumption) only [go_sem, ]
    case g1 => simp (disch := first | omega | assumption) only [go_sem, ]
    case g5 => simp (disch := first | omega | assumption) only [go_sem, ]
    case g7 => simp (disch := first | omega | assumption) only [go_sem, ]
    case g10 => simp (disch := first | omega | assumption) only [go_sem, ]
    case g11 => simp (disch := first | omega | assumption) only [go_sem, ]; try rfl
    clear hW2 hX2 kz kw hl2 hlbn hn2 hwf2
    rintro k a' s3 ⟨T, i, wv, O, V, tt, W0, w, wb, o, ws, sz, op, vs0, y, rfl, g0, g1, g5, g7, g10, g11, hi, rfl, hlg, hfl, hwn, b1, b2, b3⟩
    have hwf3 := hlg.dk.keep.wf
    obtain ⟨cc, hwv⟩ : ∃ cc, wv = .slice (some ⟨wb, o, none⟩) (W0.length + 1) cc := ⟨_, by rw [hwn.val, List.length_append, List.length_singleton]⟩
    have g10' : T.get 10 = some (.slice (some ⟨wb, o, none⟩) (W0.length + 1) cc) := by rw [g10, hwv]
    by_cases hil : i < ls.length
    · obtain ⟨xb, xo, xc', lw, e, hw, hvl, hat⟩ := list_at l1 ⟨_, _, rfl⟩ (by omega)
      cases e
      have hx := hat i (by omega)
      have hxB := l2.2 i lvs[i] ls[i] (List.getElem?_eq_getElem (by omega)) (List.getElem?_eq_getElem hil)
      have hw3 := keep_obj hlg.dk.keep.old hw
      generalize lvs[i] = x at *
      generalize ls[i] = r at *
      obtain ⟨ya, yc, rfl⟩ := hxB.1
      clear hat hvl
      by_cases h2000 : 2000 < r.length
      · (try first | refine EvO.nx ?_ | refine EvA.nx ?_); repeat' (first | refine Abs.goH (Abs.cc g0 (Abs.cc g1 (Abs.cc g5 (Abs.cc g7 (Abs.cc g10' (Abs.cc g11 (Abs.cc hw3 (hx)))))))) ?_ | with_reducible refine Abs.fork (fun hb => ?_) (fun hb => ?_))
        all_goals exact ⟨_, rfl⟩
      · (try first | refine EvO.nx ?_ | refine EvA.nx ?_); repeat' (first | refine Abs.goH (Abs.cc g0 (Abs.cc g1 (Abs.cc g5 (Abs.cc g7 (Abs.cc g10' (Abs.cc g11 (Abs.cc hw3 (hx)))))))) ?_ | with_reducible refine Abs.fork (fun hb => ?_) (fun hb => ?_))
        refine xappend_ev hn.wl hwf hT hlg (by omega) hfl (by omega) b3 (by omega) (by omega) (hxB.mono hlg.dk.keep.old) (by omega) fun s5 O5 V5 W1 w1 mw5 hl5 hf5 hcs => ⟨_, _, rfl, ?_⟩
        have hwn5 := hwn.mv hwf3 mw5
        have hwf5 := hl5.dk.keep.wf
        obtain ⟨hlast, htxl⟩ := hwn5.last
        obtain ⟨za, zc, rfl⟩ := htxl.bytes.1
        (try first | refine EvO.nx ?_ | refine EvA.nx ?_); repeat' (first | refine Abs.go1H (Abs.cc g0 (Abs.cc g1 (Abs.cc g5 (Abs.cc g7 (Abs.cc g10' (g11)))))) ?_ | with_reducible refine Abs.fork (fun hb => ?_) (fun hb => ?_))
        refine Ev.forget (fun T => T.get 0 = some (.slice (some ⟨xb, xo, none⟩) ls.length lc) ∧ T.get 1 = some (.int .i64 (M : Int)) ∧ T.get 5 = some (.pointer (some ⟨b, 0, none⟩)) ∧ T.get 7 = some (.pointer (some ⟨lb, 0, none⟩)) ∧ T.get 10 = some (.slice (some ⟨wb, o, none⟩) (W0.length + 1) cc) ∧ T.get 11 = some (.int .i64 ((i : Nat) : Int))) ⟨by simp (disch := first | omega | assumption) only [go_sem, g0], by simp (disch := first | omega | assumption) only [go_sem, g1], by simp (disch := first | omega | assumption) only [go_sem, g5], by simp (disch := first | omega | assumption) only [go_sem, g7], by simp (disch := first | omega | assumption) only [go_sem, g10'], by simp (disch := first | omega | assumption) only [go_sem, g11]⟩ ?_
        clear g0 g1 g5 g7 g10 g10' g11 T
        rintro T ⟨g0, g1, g5, g7, g10, g11⟩
        have e1 : (((W0.length + 1 : Nat) : Int) - 1).toNat = W0.length := by omega
        refine Ev.seq ?_
        refine Ev.mono (R := fun r' => ∃ T s6 wv wb o ws sz op vs1 y1, r' = .at .normal ⟨T, 166, []⟩ s6 ∧ T.get 0 = some (.slice (some ⟨xb, xo, none⟩) ls.length lc) ∧ T.get 1 = some (.int .i64 (M : Int)) ∧ T.get 5 = some (.pointer (some ⟨b, 0, none⟩)) ∧ T.get 7 = some (.pointer (some ⟨lb, 0, none⟩)) ∧ T.get 10 = some wv ∧ T.get 11 = some (.int .i64 ((i : Nat) : Int)) ∧
          Lg s s6 O5 lb b preX M 1 (W1.length + 1) (w1 ++ frameB r).length (i + 1) 1048576 V5 (tt + (8 + r.length)) (W1.length + 1) 0 ∧ Wnt s6 s.next (fun c => O5 c ∨ c = lb) wv (W1 ++ [w1]) wb o ws sz op (vs1 ++ [y1])) ?_ ?_
        · have hbk5 := hwn5.blk
          rcases id hcs with ⟨hb, rfl, rfl⟩ | ⟨hb, rfl, rfl⟩
          · (try first | refine EvO.nx ?_ | refine EvA.nx ?_); repeat' (first | refine Abs.goH (Abs.cc g0 (Abs.cc g1 (Abs.cc g5 (Abs.cc g7 (Abs.cc g10 (Abs.cc g11 (Abs.cc hbk5 (Abs.cc hlast (e1))))))))) ?_ | with_reducible refine Abs.fork (fun hb => ?_) (fun hb => ?_))
            exact ⟨_, s5, wv, wb, o, ws, sz, op, vs0, _, rfl, by simp (disch := first | omega | assumption) only [go_sem, g0], by simp (disch := first | omega | assumption) only [go_sem, g1], by simp (disch := first | omega | assumption) only [go_sem, g5], by simp (disch := first | omega | assumption) only [go_sem, g7], by rw [hwv]; simp (disch := first | omega | assumption) only [go_sem, g10], by simp (disch := first | omega | assumption) only [go_sem, g11], hl5, hwn5⟩
          · (try first | refine EvO.nx ?_ | refine EvA.nx ?_); repeat' (first | refine Abs.goH (Abs.cc g0 (Abs.cc g1 (Abs.cc g5 (Abs.cc g7 (Abs.cc g10 (Abs.cc g11 (Abs.cc hbk5 (Abs.cc hlast (e1))))))))) ?_ | with_reducible refine Abs.fork (fun hb => ?_) (fun hb => ?_))
            have kz := (Keep.refl hwf5).new (.cells [] 5 0 false (0, 0))
            have kw := kz.new (.cells [.slice (some ⟨s5.next, 0, none⟩) 0 0] 28 0 false (0, 0))
            have hWl : (W0 ++ [w]).length = W0.length + 1 := by rw [List.length_append, List.length_singleton]
            have hv5 := (hwn5.mv hwf5 (Mv.ofKeep kw)).vec
            rw [hWl, hwv] at hv5
            refine EvO.appendV (m := 1) (nw := [.slice (some ⟨s5.next, 0, none⟩) 0 0]) kw.wf Tryz.underlying59 Ty.sz28 Ty.by28 Ty.ze28 rfl (by decide) hv5 (by unfold open_; omega) ((appSrc_slice Tryz.underlying59).trans (src_cells (get_same _ _ _) rfl)) rfl rfl (by decide) (by omega) (by omega) fun v6 s6 q1 q2 q3 q4 q5 q6 => ?_
            have hlo5 : s.next ≤ s5.next := hl5.dk.keep.next
            have hX5 : ∀ c, (O5 c ∨ c = lb) → c < s5.next := fun c hc => hc.elim (fun h => hl5.dk.lt h) fun e => e ▸ hl5.at_.lt hwf5
            obtain ⟨wb6, o6, w6, hwn6⟩ := hwn5.push hwf5 hlo5 hX5 (by rw [hWl]; unfold open_; omega) kw (get_old (b := s5.next) (c := s5.next + 1) (get_same _ _ _) (Nat.ne_of_lt (Nat.lt_succ_self _))) ⟨Nat.le_refl _, by show s5.next < s5.next + 1 + 1; omega⟩ (by rw [hWl]; exact q1) (by rw [hWl, hwv]; exact q2) q5
            have hl6 := (hl5.old kw).frame hwf q3 q4 fun z u hz hu => q6 z u hu fun hr' => by
              obtain ⟨_, _, e⟩ := hr'
              injection e with e2 _ _
              cases e2
              obtain ⟨a1, a2⟩ := hwn5.out
              rcases hz with hz | hz | hz
              · exact a1 (.inl hz)
              · exact a1 (.inr hz)
              · omega
            (try first | refine EvO.nx ?_ | refine EvA.nx ?_); repeat' (first | refine Abs.goH (Abs.cc g0 (Abs.cc g1 (Abs.cc g5 (Abs.cc g7 (Abs.cc g10 (g11)))))) ?_ | with_reducible refine Abs.fork (fun hb => ?_) (fun hb => ?_))
            exact ⟨_, s6, v6, wb6, o6, w6, 1, true, _, _, rfl, by simp (disch := first | omega | assumption) only [go_sem, g0], by simp (disch := first | omega | assumption) only [go_sem, g1], by simp (disch := first | omega | assumption) only [go_sem, g5], by simp (disch := first | omega | assumption) only [go_sem, g7], by simp (disch := first | omega | assumption) only [go_sem, ], by simp (disch := first | omega | assumption) only [go_sem, g11], hl6, hwn6⟩
        · have hW1 : W1.length ≤ 61 := by
            rcases hcs with ⟨_, e, _⟩ | ⟨_, e, _⟩
            · rw [e]; omega
            · rw [e, List.length_append, List.length_singleton]; omega
          clear g0 g1 g5 g7 g10 g11 T hwn5 hlast htxl hwv hwn hl5 e1
          rintro r' ⟨T, s6, wv, wb, o, ws, sz, op, vs1, y1, rfl, g0, g1, g5, g7, g10, g11, hl6, hwn6⟩
          refine Seq.go ?_
          have hwf6 := hl6.dk.keep.wf
          have e1 : (((W1.length + 1 : Nat) : Int) - 1).toNat = W1.length := by omega
          obtain ⟨cc, hwv⟩ : ∃ cc, wv = .slice (some ⟨wb, o, none⟩) (W1.length + 1) cc := ⟨_, by rw [hwn6.val, List.length_append, List.length_singleton]⟩
          have g10' : T.get 10 = some (.slice (some ⟨wb, o, none⟩) (W1.length + 1) cc) := by rw [g10, hwv]
          obtain ⟨hlast6, htx6⟩ := hwn6.last
          obtain ⟨za, zc, rfl⟩ := htx6.bytes.1
          have hbk6 := hwn6.blk
          have hw6 := keep_obj hl6.dk.keep.old hw
          (try first | refine EvO.nx ?_ | refine EvA.nx ?_); repeat' (first | refine Abs.goH (Abs.cc g0 (Abs.cc g1 (Abs.cc g5 (Abs.cc g7 (Abs.cc g10' (g11)))))) ?_ | with_reducible refine Abs.fork (fun hb => ?_) (fun hb => ?_))
          refine Abs.Ev.regionD (n := 0) (l := [.go 0, .go 1, .go 2, .go 3, .go 4, .go 5, .go 6, .go 7, .go 8, .go 9, .go 10, .go 11, .go 12, .go 13, .go 14, .again 9, .go 15, .go 16, .go 17]) (by kernel_rfl) ?_
          (try first | refine EvO.nx ?_ | refine EvA.nx ?_); repeat' (first | refine Abs.goH (Abs.cc g0 (Abs.cc g1 (Abs.cc g5 (Abs.cc g7 (Abs.cc g10' (Abs.cc g11 (Abs.cc hbk6 (Abs.cc hlast6 (Abs.cc e1 (Abs.cc hw6 (hx))))))))))) ?_ | with_reducible refine Abs.fork (fun hb => ?_) (fun hb => ?_))
          refine rframe_ev hr hwf6 (hxB.mono hl6.dk.keep.old) (by omega) fun fv s7 k7 o7 => ⟨_, _, rfl, ?_⟩
          have hwn7 := hwn6.mv hwf6 (Mv.ofKeep k7)
          have hl7 := hl6.old k7
          have hbk7 := hwn7.blk
          obtain ⟨hlast7, htx7⟩ := hwn7.last
          have hfl := frameB_len r
          have hFne : frameB r ≠ [] := by intro e; rw [e, List.length_nil] at hfl; omega
          obtain ⟨_, fa, fc, rfl⟩ := o7.vec.src
          generalize frameB r = FB at *
          have hw1 : w1.length ≤ 1000 := by
            rcases hcs with ⟨_, _, e⟩ | ⟨_, _, e⟩
            · rw [e]; omega
            · rw [e]; exact Nat.zero_le _
          (try first | refine EvO.nx ?_ | refine EvA.nx ?_); repeat' (first | refine Abs.goH (Abs.cc g0 (Abs.cc g1 (Abs.cc g5 (Abs.cc g7 (Abs.cc g10' (Abs.cc g11 (Abs.cc hbk7 (Abs.cc hlast7 (e1))))))))) ?_ | with_reducible refine Abs.fork (fun hb => ?_) (fun hb => ?_))
          refine ⟨txt_veq htx7, ?_⟩
          (try first | refine EvO.nx ?_ | refine EvA.nx ?_); repeat' (first | refine Abs.goH (Abs.cc g0 (Abs.cc g1 (Abs.cc g5 (Abs.cc g7 (Abs.cc g10' (g11)))))) ?_ | with_reducible refine Abs.fork (fun hb => ?_) (fun hb => ?_))
          refine EvO.appendO (l := w1) (m := FB) k7.wf htx7.buf ((appSrc_slice Tryz.underlying28).trans o7.vec.src.1) hFne (by omega) fun s8 q1 q2 q3 q4 => ?_
          have hyo : ∀ c, inBlk (.slice za w1.length zc) c → ¬ (O5 c ∨ c = lb) ∧ s.next ≤ c ∧ c ≠ wb := fun c hc => hwn7.off _ (List.mem_append_right _ (List.mem_singleton.2 rfl)) c hc
          have hob : ∀ {c}, owns (.slice za w1.length zc) c → inBlk (.slice za w1.length zc) c := fun ⟨n, e⟩ => ⟨0, n, open_, e⟩
          have hbk8 := q4 wb _ hbk7 fun ho => (hyo wb (hob ho)).2.2 rfl
          have hX7 : ∀ c, (O5 c ∨ c = lb) → c < s7.next := fun c hc => hc.elim (fun h => hl7.dk.lt h) fun e => e ▸ hl7.at_.lt k7.wf
          have hwl : o + W1.length + 1 ≤ ws.length := by
            have h := hwn7.len
            rw [List.length_append, List.length_singleton] at h
            omega
          have hwn9 := hwn7.put k7.wf hl7.dk.keep.next hX7 hFne q1 q4
          have hl9 := hl7.frame (s' := ⟨s8.heap.set wb (.cells (ws.set (o + W1.length) (.slice (some ⟨s7.next, 0, none⟩) (w1 ++ FB).length open_)) 28 sz op (0, 0)), s8.next⟩) hwf (wf_setC q3 hbk8 _) (by show s7.next ≤ s8.next; omega) fun z u hz hu => by
            show (s8.heap.set wb _).get z = _
            have hzw : z ≠ wb := fun e => by
              obtain ⟨a1, a2⟩ := hwn7.out
              subst e
              rcases hz with hz | hz | hz
              · exact a1 (.inl hz)
              · exact a1 (.inr hz)
              · omega
            rw [get_other _ _ _ _ hzw]
            refine q4 z u hu fun ho => ?_
            obtain ⟨a1, a2, _⟩ := hyo z (hob ho)
            rcases hz with hz | hz | hz
            · exact a1 (.inl hz)
            · exact a1 (.inr hz)
            · omega
          (try first | refine EvO.nx ?_ | refine EvA.nx ?_); repeat' (first | refine Abs.goH (Abs.cc g0 (Abs.cc g1 (Abs.cc g5 (Abs.cc g7 (Abs.cc g10' (Abs.cc g11 (Abs.cc hbk8 (e1)))))))) ?_ | with_reducible refine Abs.fork (fun hb => ?_) (fun hb => ?_))
          refine ⟨ls.length - (i + 1), by omega, _, i + 1, wv, O5, V5, tt + (8 + r.length), W1, w1 ++ FB, wb, o, _, sz, op, vs1, _, rfl, ?_, ?_, ?_, ?_, ?_, ?_, by omega, rfl, hl9, hf5, hwn9, by omega, ?_, by rw [List.length_append]; omega⟩
          · simp (disch := first | omega | assumption) only [go_sem, g0]
          · simp (disch := first | omega | assumption) only [go_sem, g1]
          · simp (disch := first | omega | assumption) only [go_sem, g5]
          · simp (disch := first | omega | assumption) only [go_sem, g7]
          · simp (disch := first | omega | assumption) only [go_sem, g10]
          · simp (disch := first | omega | assumption) only [go_sem, Int.natCast_add, Int.natCast_one]
          · rcases hcs with ⟨_, e, _⟩ | ⟨_, e, _⟩
            · rw [e]; omega
            · rw [e, List.length_append, List.length_singleton]; omega
    · obtain rfl : i = ls.length := by omega
      have hWl : (W0 ++ [w]).length = W0.length + 1 := by rw [List.length_append, List.length_singleton]
      (try first | refine EvO.nx ?_ | refine EvA.nx ?_); repeat' (first | refine Abs.goH (Abs.cc g0 (Abs.cc g1 (Abs.cc g5 (Abs.cc g7 (Abs.cc g10' (g11)))))) ?_ | with_reducible refine Abs.fork (fun hb => ?_) (fun hb => ?_))
      refine vlist_ev hn.wl.wn.disk hlg.dk fun ks nv s4 hso hkl hk64 k4 nvec nlo => ⟨_, _, rfl, ?_⟩
      have hks : ks = (List.range' 1 (W0.length + 1)).map (segN preX) := by
        have hsg := hfl.segs (by omega)
        rw [hWl] at hsg
        refine names_segs hso hsg (by decide) (by omega) fun nm hn' => ?_
        obtain ⟨k, hk, e⟩ := hfl.only nm hn'
        exact ⟨k + 1, by omega, by omega, e⟩
      obtain ⟨hsrcN, na, nc, rfl⟩ := nvec.src
      have hl4 := hlg.old k4
      (try first | refine EvO.nx ?_ | refine EvA.nx ?_); repeat' (first | refine Abs.goH (Abs.cc g0 (Abs.cc g1 (Abs.cc g5 (Abs.cc g7 (Abs.cc g10' (g11)))))) ?_ | with_reducible refine Abs.fork (fun hb => ?_) (fun hb => ?_))
      refine wfirst_ev hn.wl hl4.at_ ⟨_, _, rfl, ?_⟩
      (try first | refine EvO.nx ?_ | refine EvA.nx ?_); repeat' (first | refine Abs.goH (Abs.cc g0 (Abs.cc g1 (Abs.cc g5 (Abs.cc g7 (Abs.cc g10' (g11)))))) ?_ | with_reducible refine Abs.fork (fun hb => ?_) (fun hb => ?_))
      refine wlast_ev hn.wl hl4.at_ ⟨_, _, rfl, ?_⟩
      (try first | refine EvO.nx ?_ | refine EvA.nx ?_); repeat' (first | refine Abs.goH (Abs.cc g0 (Abs.cc g1 (Abs.cc g5 (Abs.cc g7 (Abs.cc g10' (g11)))))) ?_ | with_reducible refine Abs.fork (fun hb => ?_) (fun hb => ?_))
      refine wrecords_ev hn.wl hl4.at_ ⟨_, _, rfl, ?_⟩
      (try first | refine EvO.nx ?_ | refine EvA.nx ?_); repeat' (first | refine Abs.goH (Abs.cc g0 (Abs.cc g1 (Abs.cc g5 (Abs.cc g7 (Abs.cc g10' (g11)))))) ?_ | with_reducible refine Abs.fork (fun hb => ?_) (fun hb => ?_))
      obtain ⟨ws4, t1, _, t2⟩ := hwn.texts.mono k4.old
      rw [hWl, hwv] at t1
      have hnv : ∀ j, j < W0.length + 1 → (valsOf ks)[j]? = some (mkStr (segN preX (j + 1))) := fun j h => by
        unfold valsOf
        rw [List.getElem?_map, hks, List.getElem?_map, List.getElem?_range' h, Nat.one_mul, Nat.add_comm 1 j]
        rfl
      have hnl : (valsOf ks).length = W0.length + 1 := by unfold valsOf; rw [List.length_map, hkl]
      refine Ev.loop (fun k a' s' => ∃ T, ∃ j : Nat, a' = ⟨T, 166, []⟩ ∧ T.get 5 = some (.pointer (some ⟨b, 0, none⟩)) ∧ T.get 10 = some (.slice (some ⟨wb, o, none⟩) (W0.length + 1) cc) ∧ T.get 12 = some (.slice na (W0.length + 1) nc) ∧ T.get 13 = some (.int .i64 ((j : Nat) : Int)) ∧ j ≤ W0.length + 1 ∧ k = W0.length + 1 - j ∧ Keep s4 s') (k := W0.length + 1)
        ⟨_, 0, rfl, ?p5, ?p10, ?p12, ?p13, Nat.zero_le _, rfl, Keep.refl k4.wf⟩ ?_
      case p5 => simp (disch := first | omega | assumption) only [go_sem, g5]
      case p10 => simp (disch := first | omega | assumption) only [go_sem, g10']
      case p12 => simp (disch := first | omega | assumption) only [go_sem, ]
      case p13 => simp (disch := first | omega | assumption) only [go_sem, ]; try rfl
      clear g0 g1 g5 g7 g10 g10' g11 T
      rintro k a' s5 ⟨T, j, rfl, p5, p10, p12, p13, hj, rfl, k5⟩
      by_cases hjl : j < W0.length + 1
      · obtain ⟨nb, no, nc', nw, e, hnw, _, hnat⟩ := list_at hsrcN ⟨_, _, rfl⟩ (by omega)
        cases e
        have hnj := hnat j (by omega)
        rw [← List.getElem?_eq_getElem, hnv j hjl] at hnj
        obtain ⟨ub, uo, uc, uw, e, huw, hul, huat⟩ := list_at t1 ⟨_, _, rfl⟩ (by omega)
        cases e
        have huj := huat j (by omega)
        have huB := t2.2 j ws4[j] (W0 ++ [w])[j] (List.getElem?_eq_getElem (by omega)) (List.getElem?_eq_getElem (by omega))
        obtain ⟨z, hz⟩ := hfl.at_ j (by omega)
        have hLl := (hlg.dk.len hz).2
        have hs2 := seg_two (n := j + 1) (by omega)
        generalize ws4[j] = u at *
        generalize (W0 ++ [w])[j] = L at *
        generalize segN preX (j + 1) = nm at *
        clear hnat huat
        have hnw5 := keep_obj k5.old hnw
        (try first | refine EvO.nx ?_ | refine EvA.nx ?_); repeat' (first | refine Abs.goH (Abs.cc p5 (Abs.cc p10 (Abs.cc p12 (Abs.cc p13 (Abs.cc hnw5 (hnj)))))) ?_ | with_reducible refine Abs.fork (fun hb => ?_) (fun hb => ?_))
        refine vread_ev hn.wl.wn.disk ((hlg.dk.old k4).old k5) hz fun bv s6 k6 tx => ⟨_, _, rfl, ?_⟩
        have k56 := k5.trans k6
        have cv1 := conv_bytesC tx.bytes
        have cv2 := conv_bytesC (huB.mono k56.old)
        obtain ⟨ba, bc, rfl⟩ := tx.bytes.1
        obtain ⟨ua, uc2, rfl⟩ := huB.1
        have huw6 := keep_obj k56.old huw
        have hnw6 := keep_obj k56.old hnw
        simp (disch := first | omega | assumption) only [go_sem] at cv1 cv2
        (try first | refine EvO.nx ?_ | refine EvA.nx ?_); repeat' (first | refine Abs.goH (Abs.cc p5 (Abs.cc p10 (Abs.cc p12 (p13)))) ?_ | with_reducible refine Abs.fork (fun hb => ?_) (fun hb => ?_))
        refine Abs.Ev.regionD (n := 32) (l := [.go 0, .go 1, .go 2, .go 3, .go 4, .go 5, .go 6, .go 7, .go 8, .go 9, .go 10, .go 11, .go 12, .go 13, .go 14, .go 15, .go 16, .go 17, .go 18, .go 19, .go 20, .go 21, .go 22, .go 23, .go 24, .go 25, .go 26, .new 27 27, .go 28, .go 29, .go 30, .go 31]) (by kernel_rfl) ?_
        (try first | refine EvO.nx ?_ | refine EvA.nx ?_); repeat' (first | refine Abs.goH (Abs.cc p5 (Abs.cc p10 (Abs.cc p12 (Abs.cc p13 (Abs.cc huw6 (Abs.cc huj (Abs.cc hnw6 (Abs.cc hnj (Abs.cc cv1 (Abs.cc cv2 (not_true_eq_false))))))))))) ?_ | with_reducible refine Abs.fork (fun hb => ?_) (fun hb => ?_))
        apply Abs.Ev.newY rfl rfl rfl rfl
        · simp (disch := omega) only [go_sem, ne_eq, not_true_eq_false, decide_false, decide_true]
        have d1 : ((j : Int) + 1).tdiv 10 = (((j + 1) / 10 : Nat) : Int) := (Int.ofNat_tdiv (j + 1) 10).symm
        have d2 : ((j : Int) + 1).tmod 10 = (((j + 1) % 10 : Nat) : Int) := (Int.ofNat_tmod (j + 1) 10).symm
        have hcb : (cutN [Value.int .u8 (48 + (((j + 1) / 10 : Nat) : Int)), Value.int .u8 (48 + (((j + 1) % 10 : Nat) : Int))] 0 2).bind cellBytes = some [UInt8.ofNat (48 + (j + 1) / 10), UInt8.ofNat (48 + (j + 1) % 10)] := cells_two (by omega) (by omega) (by omega) (by omega)
        have hsa : aStr .add [120, 46, 48, 48, 48, 48] [UInt8.ofNat (48 + (j + 1) / 10), UInt8.ofNat (48 + (j + 1) % 10)] = .ok (mkStr ([120, 46, 48, 48, 48, 48] ++ [UInt8.ofNat (48 + (j + 1) / 10), UInt8.ofNat (48 + (j + 1) % 10)])) := str_add _ _ (by simp only [List.length_cons, List.length_nil]; omega)
        subst hs2
        (try first | refine EvO.nx ?_ | refine EvA.nx ?_); repeat' (first | refine Abs.goH (Abs.cc p5 (Abs.cc p10 (Abs.cc p12 (Abs.cc p13 (Abs.cc d1 (Abs.cc d2 (Abs.cc hcb (hsa)))))))) ?_ | with_reducible refine Abs.fork (fun hb => ?_) (fun hb => ?_))
        refine ⟨W0.length + 1 - (j + 1), by omega, _, j + 1, rfl, ?_, ?_, ?_, ?_, by omega, rfl, k56.trans (Keep.set2 (Keep.grow (Keep.refl k6.wf) (Nat.le_add_right _ 32)) (Nat.le_add_right _ 27) (by omega) k6.wf)⟩
        · simp (disch := first | omega | assumption) only [go_sem, p5]
        · simp (disch := first | omega | assumption) only [go_sem, p10]
        · simp (disch := first | omega | assumption) only [go_sem, p12]
        · simp (disch := first | omega | assumption) only [go_sem, p13, Int.natCast_add, Int.natCast_one]
      · obtain rfl : j = W0.length + 1 := by omega
        (try first | refine EvO.nx ?_ | refine EvA.nx ?_); repeat' (first | refine Abs.goH (Abs.cc p5 (Abs.cc p10 (Abs.cc p12 (p13)))) ?_ | with_reducible refine Abs.fork (fun hb => ?_) (fun hb => ?_))
        all_goals exact ⟨_, rfl⟩
  · (try first | refine EvO.nx ?_ | refine EvA.nx ?_); repeat' (first | refine Abs.go ?_ | with_reducible refine Abs.fork (fun hb => ?_) (fun hb => ?_))
    all_goals exact ⟨_, rfl⟩
end
end Go.Proofs.YtbakhdgiimjnkaaGreatDoor
