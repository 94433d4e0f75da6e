/-
  A network's packets and numbers as they lie, at the evaluator. No law in sight.
-/
import Derived.Test.YtpbadpkleiogoaaBytEv
import Derived.Test.YtpbadpkleiogoaaEvCut
import Derived.Test.YtpbadpkleiogoaaEvSet
set_option linter.unusedVariables false
set_option linter.unusedSimpArgs false
namespace Go.Proofs.Ytpbadpkleiogoaa
open Abs
set_option maxHeartbeats 16000000
set_option maxRecDepth 20000
set_option linter.unusedSimpArgs false
attribute [local irreducible] Abs.Ev Abs.EvF Abs.EvO Abs.EvA Abs.Seq Abs.Blk Abs.Body Abs.Scp Abs.EvG Abs.EvAg Abs.Nx
attribute [local go_sem] Try.underlying5 Ty.sz5 Ty.by5 Ty.ag5 Ty.ze5 Try.underlying29 Ty.sz29 Ty.by29 Ty.ag29 Ty.ze29 Try.underlying45 Ty.sz45 Ty.by45 Ty.ag45 Ty.ze45 Try.underlying58 Ty.sz58 Ty.by58 Ty.ag58 Ty.ze58
section
variable {Sm : Summ} {Q : Ans → Prop}
/-- only blocks of a set move -/
structure Mv (O O' : Nat → Prop) (s s' : St) : Prop where
  wf : s'.wf
  next : s.next ≤ s'.next
  old : ∀ c x, ¬ O c → s.heap.get c = some x → s'.heap.get c = some x
  new : ∀ c, O' c → O c ∨ s.next ≤ c
theorem Mv.refl {O : Nat → Prop} {s : St} (h : s.wf) : Mv O O s s := ⟨h, Nat.le_refl _, fun _ _ _ h => h, fun _ h => .inl h⟩
theorem Mv.ofKeep {O : Nat → Prop} {s s' : St} (h : Keep s s') : Mv O O s s' := ⟨h.wf, h.next, fun c x _ hx => h.old c x hx, fun _ h => .inl h⟩
theorem Mv.trans {O O' O'' : Nat → Prop} {s s' s'' : St} (hlt : s.wf) (h : Mv O O' s s') (k : Mv O' O'' s' s'') : Mv O O'' s s'' :=
  ⟨k.wf, Nat.le_trans h.next k.next, fun c x hc hx => k.old c x (fun ho => (h.new c ho).elim hc fun e => by have := hlt c x hx; omega) (h.old c x hc hx), fun c hc => (k.new c hc).elim (fun ho => h.new c ho) fun e => .inr (Nat.le_trans h.next e)⟩
/-- a packet -/
structure PK where
  id : Int
  from_ : Int
  to : Int
  b : List UInt8
abbrev Pks := List (Value × PK)
def pkC (e : Value × PK) : List Value := [.int .i64 e.2.id, .int .i64 e.2.from_, .int .i64 e.2.to, e.1]
def cellsP (L : Pks) : List Value := L.flatMap pkC
theorem cellsP_len : ∀ L : Pks, (cellsP L).length = L.length * 4
  | [] => rfl
  | e :: L => by
    show (pkC e ++ cellsP L).length = _
    rw [List.length_append, cellsP_len L, List.length_cons, show (pkC e).length = 4 from rfl]
    omega
theorem cellsP_app (L M : Pks) : cellsP (L ++ M) = cellsP L ++ cellsP M := List.flatMap_append
theorem cellsP_one (e : Value × PK) : cellsP [e] = pkC e := by
  show pkC e ++ [] = _
  rw [List.append_nil]
theorem cellsP_split (L : Pks) (i : Nat) (h : i ≤ L.length) : cellsP L = cellsP (L.take i) ++ cellsP (L.drop i) ∧ (cellsP (L.take i)).length = i * 4 :=
  ⟨by rw [← cellsP_app, List.take_append_drop], by rw [cellsP_len, List.length_take, Nat.min_eq_left h]⟩
theorem cellsP_take (L : Pks) (i : Nat) (h : i ≤ L.length) : cellsP (L.take i) = (cellsP L).take (i * 4) := by
  obtain ⟨h1, h2⟩ := cellsP_split L i h
  rw [h1, ← h2, List.take_left]
theorem cellsP_drop (L : Pks) (i : Nat) (h : i ≤ L.length) : cellsP (L.drop i) = (cellsP L).drop (i * 4) := by
  obtain ⟨h1, h2⟩ := cellsP_split L i h
  rw [h1, ← h2, List.drop_left]
theorem cellsP_at (L : Pks) (i : Nat) (h : i < L.length) : ((cellsP L).drop (i * 4)).take 4 = pkC L[i] := by
  rw [← cellsP_drop L i (by omega), List.drop_eq_getElem_cons h]
  rfl
def u64C (l : List Nat) : List Value := l.map fun x => .int .u64 ((x : Nat) : Int)
/-- a slice's block is one's own, and of a kind -/
def KB (t : TypeId) (s : St) (O : Nat → Prop) (v : Value) : Prop := ∀ c, inBlk v c → O c ∧ ∃ l sz op, s.heap.get c = some (.cells l t sz op (0, 0))
theorem KB.mono {t : TypeId} {s s' : St} {O O' : Nat → Prop} {v : Value} (h : KB t s O v) (hO : ∀ c, O c → O' c) (hk : ∀ c x, O c → s.heap.get c = some x → s'.heap.get c = some x) : KB t s' O' v := fun c hc => by
  obtain ⟨h1, l, sz, op, h2⟩ := h c hc
  exact ⟨hO c h1, l, sz, op, hk c _ h1 h2⟩
theorem KB.nil (t : TypeId) (s : St) (O : Nat → Prop) (n c : Nat) : KB t s O (.slice none n c) := fun b hb => by obtain ⟨_, _, _, e⟩ := hb; cases e
/-- numbers that may be put something behind: or a slice that was used up -/
inductive Fd (s : St) (v : Value) (l : List Nat) : Prop where
  | vec (h : Vec s 29 1 v l.length (u64C l)) (hr : l ≠ [] → ∀ c, inBlk v c → inRoom v c)
  | gone {b : Nat} {w : List Value} (hv : v = .slice (some ⟨b, w.length, none⟩) 0 open_) (hl : l = []) (hb : s.heap.get b = some (.cells w 29 1 true (0, 0)))
theorem Fd.mono {s s' : St} {v : Value} {l : List Nat} (h : Fd s v l) (hk : ∀ b x, inBlk v b → s.heap.get b = some x → s'.heap.get b = some x) : Fd s' v l := by
  cases h with
  | vec h hr => exact .vec (h.mono hk) hr
  | gone hv hl hb => exact .gone hv hl (hk _ _ (by rw [hv]; exact ⟨_, _, _, rfl⟩) hb)
theorem Fd.len {s : St} {v : Value} {l : List Nat} (h : Fd s v l) : ∃ a c, v = .slice a l.length c := by
  cases h with
  | vec h _ => exact h.src.2
  | gone hv hl hb => subst hl; exact ⟨_, _, hv⟩
/-- the kinds of a network's blocks are apart -/
structure Kd (tN tP : TypeId) : Prop where
  nP : tN ≠ tP
  n8 : tN ≠ 5
  n64 : tN ≠ 29
  p8 : tP ≠ 5
  p64 : tP ≠ 29
/-- a network, as it lies -/
structure NetAt (tN tP : TypeId) (R : Prop) (s : St) (O : Nat → Prop) (b : Nat) (L : Pks) (sent : Nat) (now : Int) (fed : List Nat) (z : Nat) : Prop where
  ex : ∃ pv fv, s.heap.get b = some (.cells [pv, .int .i64 ((sent : Nat) : Int), .int .i64 now, fv, .int .u64 ((z : Nat) : Int)] tN 0 false (0, 0)) ∧ Vec s tP 4 pv L.length (cellsP L) ∧ Fd s fv fed ∧ KB tP s O pv ∧ KB 29 s O fv ∧ (L ≠ [] → ∀ c, inBlk pv c → inRoom pv c)
  bytes : ∀ e ∈ L, TxtB s 0 e.1 e.2.b ∧ KB 5 s O e.1
  own : O b
  lt : ∀ c, O c → c < s.next
section
variable {tN tP : TypeId} {R : Prop} {s s' : St} {O O' : Nat → Prop} {b : Nat} {L : Pks} {sent : Nat} {now : Int} {fed : List Nat} {z : Nat}
theorem TxtB.keep {lo : Nat} {v : Value} {l : List UInt8} (h : TxtB s lo v l) (hk : ∀ c x, inBlk v c → s.heap.get c = some x → s'.heap.get c = some x) : TxtB s' lo v l := by
  cases h with
  | nil => exact .nil
  | zero h => exact .zero (hk _ _ ⟨_, _, _, rfl⟩ h)
  | own h h0 hb => exact .own (hk _ _ ⟨_, _, _, rfl⟩ h) h0 hb
theorem TxtB.of {lo : Nat} {v : Value} {l : List UInt8} (h : TxtB s lo v l) (k : KB 5 s O v) (hk : ∀ c x, O c → s.heap.get c = some x → s'.heap.get c = some x) : TxtB s' lo v l := h.keep fun c x hc hx => hk c x (k c hc).1 hx
theorem NetAt.mono (h : NetAt tN tP R s O b L sent now fed z) (hk : ∀ c x, O c → s.heap.get c = some x → s'.heap.get c = some x) (hn : s.next ≤ s'.next) : NetAt tN tP R s' O b L sent now fed z := by
  obtain ⟨pv, fv, h1, h2, h3, h4, h5, h6⟩ := h.ex
  exact ⟨⟨pv, fv, hk _ _ h.own h1, h2.mono fun c x hc hx => hk c x (h4 c hc).1 hx, h3.mono fun c x hc hx => hk c x (h5 c hc).1 hx, h4.mono (fun _ h => h) hk, h5.mono (fun _ h => h) hk, h6⟩, fun e he => ⟨(h.bytes e he).1.of (h.bytes e he).2 hk, (h.bytes e he).2.mono (fun _ h => h) hk⟩, h.own, fun c hc => Nat.lt_of_lt_of_le (h.lt c hc) hn⟩
theorem NetAt.old (h : NetAt tN tP R s O b L sent now fed z) (k : Keep s s') : NetAt tN tP R s' O b L sent now fed z := h.mono (fun c x _ hx => k.old c x hx) k.next
theorem NetAt.apart (h : NetAt tN tP R s O b L sent now fed z) {P P' : Nat → Prop} (mv : Mv P P' s s') (hd : ∀ c, O c → ¬ P c) : NetAt tN tP R s' O b L sent now fed z := h.mono (fun c x hc hx => mv.old c x (hd c hc) hx) mv.next
/-- a store into the network's own block -/
theorem NetAt.put (hK : Kd tN tP) {pv fv : Value} (h1 : ∃ l, s.heap.get b = some (.cells l tN 0 false (0, 0))) (h2 : Vec s tP 4 pv L.length (cellsP L)) (h3 : Fd s fv fed) (h4 : KB tP s O pv) (h5 : KB 29 s O fv) (h6 : L ≠ [] → ∀ c, inBlk pv c → inRoom pv c) (h7 : ∀ e ∈ L, TxtB s 0 e.1 e.2.b ∧ KB 5 s O e.1) (h8 : O b) (h9 : ∀ c, O c → c < s.next) :
    NetAt tN tP R ⟨s.heap.set b (.cells [pv, .int .i64 ((sent : Nat) : Int), .int .i64 now, fv, .int .u64 ((z : Nat) : Int)] tN 0 false (0, 0)), s.next⟩ O b L sent now fed z := by
  obtain ⟨w, h1⟩ := h1
  have ne : ∀ {t v}, t ≠ tN → KB t s O v → ∀ c, inBlk v c → c ≠ b := fun ht hk c hc e => by
    obtain ⟨_, l, sz, op, h⟩ := hk c hc
    rw [e, h1] at h
    cases h
    exact ht rfl
  have kp : ∀ {t v}, t ≠ tN → KB t s O v → ∀ c x, inBlk v c → s.heap.get c = some x → (s.heap.set b (.cells [pv, .int .i64 ((sent : Nat) : Int), .int .i64 now, fv, .int .u64 ((z : Nat) : Int)] tN 0 false (0, 0))).get c = some x := fun ht hk c x hc hx => (get_other _ _ _ _ (ne ht hk c hc)).trans hx
  have kk : ∀ {t v}, t ≠ tN → KB t s O v → KB t ⟨s.heap.set b (.cells [pv, .int .i64 ((sent : Nat) : Int), .int .i64 now, fv, .int .u64 ((z : Nat) : Int)] tN 0 false (0, 0)), s.next⟩ O v := fun ht hk c hc => by
    obtain ⟨q1, l, sz, op, q2⟩ := hk c hc
    exact ⟨q1, l, sz, op, kp ht hk c _ hc q2⟩
  exact ⟨⟨pv, fv, get_same _ _ _, h2.mono (kp hK.nP.symm h4), h3.mono (kp hK.n64.symm h5), kk hK.nP.symm h4, kk hK.n64.symm h5, h6⟩, fun e he => ⟨(h7 e he).1.keep (kp hK.n8.symm (h7 e he).2), kk hK.n8.symm (h7 e he).2⟩, h8, h9⟩
theorem Mv.set {x y : AObj} (hwf : s.wf) (hb : s.heap.get b = some x) (ho : O b) : Mv O O s ⟨s.heap.set b y, s.next⟩ :=
  ⟨fun c z hz => by
    rcases Tr.get_set hz with ⟨rfl, _⟩ | ⟨_, hz⟩
    · exact hwf _ _ hb
    · exact hwf c z hz, Nat.le_refl _, fun c z hc hz => (get_other _ _ _ _ (fun e => hc (by rw [e]; exact ho))).trans hz, fun c hc => .inl hc⟩
end
/-- where a packet stands -/
def posP : List PK → Int → Nat → Int
  | [], _, _ => -1
  | p :: ps, id, k => if p.id = id then (k : Int) else posP ps id (k + 1)
theorem posP_drop (ps : List PK) (id : Int) {i : Nat} (h : i < ps.length) : posP (ps.drop i) id i = if ps[i].id = id then (i : Int) else posP (ps.drop (i + 1)) id (i + 1) := by
  rw [List.drop_eq_getElem_cons h]
  rfl
theorem posP_end (ps : List PK) (id : Int) {i : Nat} (h : ps.length ≤ i) : posP (ps.drop i) id i = -1 := by
  rw [List.drop_eq_nil_of_le h]
  rfl
theorem posP_bd : ∀ (ps : List PK) (id : Int) (k : Nat), posP ps id k = -1 ∨ ((k : Int) ≤ posP ps id k ∧ posP ps id k < (k : Int) + (ps.length : Int))
  | [], _, _ => .inl rfl
  | p :: ps, id, k => by
    show (if p.id = id then (k : Int) else posP ps id (k + 1)) = -1 ∨ _ ≤ (if p.id = id then (k : Int) else posP ps id (k + 1)) ∧ (if p.id = id then (k : Int) else posP ps id (k + 1)) < _
    rw [List.length_cons]
    split
    · omega
    · have := posP_bd ps id (k + 1)
      omega
/-- an append behind a slice that was used up -/
theorem EvO.appendEnd {P : Program} {st : St} {t e : TypeId} {xt : List TypeId} {by_ : Nat} {z x : Value} {b m : Nat} {l nw : List Value} {K : Value → St → Prop} (hwf : st.wf) (hu : P.underlying t = some (.slice e)) (hsz : szT P e = .ok 1) (hby : bytesT P e = .ok by_) (hz : zeroT P e = .ok z) (hzl : (cellsOf z).length = 1)
    (hb : st.heap.get b = some (.cells l e 1 true (0, 0))) (hx : appSrc P st.heap 1 (cellsOf z) xt x = .ok (m, nw)) (hnw : nw.length = m) (hone : nw.all oneB = true) (hm : 0 < m) (h1 : m ≤ 140737488355328) (h2 : (2 * m + 192) * by_ ≤ 281474976710656)
    (h : ∀ st', st'.heap.get st.next = some (.cells nw e 1 true (0, 0)) → st'.wf → st'.next = st.next + 1 → (∀ c y, st.heap.get c = some y → c ≠ b → st'.heap.get c = some y) → K (.slice (some ⟨st.next, 0, none⟩) m open_) st') :
    EvO (fun _ k => aAppend P st (t :: xt) (.slice (some ⟨b, l.length, none⟩) 0 open_) x fun v s => k v [] s) K := by
  have hu' : undT P t = .ok (.slice e) := by rw [undT_eq, hu]; rfl
  have hm0 : Nat.beq m 0 = false := by
    cases m with
    | zero => omega
    | succ m => rfl
  have start : ∀ {β : Type} (k : Value → St → Rs β), aAppend P st (t :: xt) (.slice (some ⟨b, l.length, none⟩) 0 open_) x k = appOpen2 st e 1 b l.length 0 m nw l (0, 0) k := by
    intro β k
    show (undT P t).bind _ = _
    rw [hu']
    show (szT P e).bind _ = _
    rw [hsz]
    show (bytesT P e).bind _ = _
    rw [hby]
    show (zeroT P e).bind _ = _
    rw [hz]
    show (appSrc P st.heap 1 (cellsOf z) xt x).bind _ = _
    rw [hx]
    show ifb (appLim (.slice (some ⟨b, l.length, none⟩) 0 open_) m by_ && Nat.beq (lenN (cellsOf z)) 1) (ifb (Nat.beq m 0) (k _ st) (appTo st e 1 m nw (.slice (some ⟨b, l.length, none⟩) 0 open_) k)) _ = _
    rw [limit_ok rfl (by omega) (by rw [Nat.zero_add]; exact h2), lenN_eq, hzl, Nat.beq_refl, hm0]
    show ifb (Nat.blt open_ open_) (ifb (Nat.ble (0 + m) open_) (turn st b (l.length + 0 * 1) nw (k (sliceTo b l.length (0 + m) open_))) ((srcCells st.heap 1 (.slice (some ⟨b, l.length, none⟩) 0 open_)).bind fun old => opened st e 1 (0 + m) (old.2 ++ nw) k)) (appOpen st e 1 b l.length 0 m nw k (st.heap.get b)) = _
    rw [ifb_blt, if_neg (Nat.lt_irrefl _), hb]
    show ifb (Nat.beq e e && Nat.beq 1 1 && Nat.beq (l.length % 1) 0) (appOpen2 st e 1 b l.length 0 m nw l (0, 0) k) (.no 79 "") = _
    rw [Nat.beq_refl, Nat.mod_one]
    rfl
  refine EvO.mk' (v := .slice (some ⟨st.next, 0, none⟩) m open_) (s' := ⟨(st.heap.del b).set st.next (.cells nw e 1 true (0, 0)), st.next + 1⟩) (fun ih k => ?_) (h _ (get_same _ _ _) (fun c y hc' => ?_) rfl fun c y hc' hne => ?_)
  · rw [start]
    unfold appOpen2
    rw [ifb_ble, lenN_eq, if_neg (by omega)]
    show ifb (nw.all oneB) ((Rs.of 79 (cutN l l.length (0 * 1))).bind fun old => st.kill b fun st => st.new (.cells (old ++ nw) e 1 true (0, 0)) fun b => k (sliceTo b 0 (0 + m) open_) []) (.no 79 "") = _
    rw [hone, cutN_eq, if_pos (by omega)]
    show st.kill b (fun st => st.new (.cells ((l.drop l.length).take (0 * 1) ++ nw) e 1 true (0, 0)) fun b => k (sliceTo b 0 (0 + m) open_) []) = _
    rw [St.kill_eq, St.new_eq, Nat.zero_mul, List.take_zero, List.nil_append, Nat.zero_add]
    rfl
  · rcases Tr.get_set hc' with ⟨rfl, _⟩ | ⟨_, hc'⟩
    · exact Nat.lt_succ_self _
    · exact Nat.lt_succ_of_lt (hwf c y (Tr.get_del hc').2)
  · rw [get_other _ _ _ _ (Nat.ne_of_lt (hwf c y hc'))]
    rw [show (st.heap.del b).get c = st.heap.get c from Tr.get_put_ne hne]
    exact hc'
/-- an append that fits into the block -/
theorem EvO.appendIn {P : Program} {st : St} {t e : TypeId} {xt : List TypeId} {sz by_ : Nat} {z x : Value} {b o n m : Nat} {l nw : List Value} {K : Value → St → Prop} (hu : P.underlying t = some (.slice e)) (hsz : szT P e = .ok sz) (hby : bytesT P e = .ok by_) (hz : zeroT P e = .ok z) (hzl : (cellsOf z).length = sz)
    (hb : st.heap.get b = some (.cells l e sz true (0, 0))) (ho : o % sz = 0) (hfit : o + (n + m) * sz ≤ l.length) (hx : appSrc P st.heap sz (cellsOf z) xt x = .ok (m, nw)) (hnw : nw.length = m * sz) (hone : nw.all oneB = true) (hm : 0 < m) (h1 : n + m ≤ 140737488355328) (h2 : (2 * (n + m) + 192) * by_ ≤ 281474976710656)
    (h : K (.slice (some ⟨b, o, none⟩) (n + m) open_) ⟨st.heap.set b (.cells (l.take (o + n * sz) ++ (nw ++ l.drop (o + n * sz + nw.length))) e sz true (0, 0)), st.next⟩) :
    EvO (fun _ k => aAppend P st (t :: xt) (.slice (some ⟨b, o, none⟩) n open_) x fun v s => k v [] s) K := by
  have hu' : undT P t = .ok (.slice e) := by rw [undT_eq, hu]; rfl
  have hm0 : Nat.beq m 0 = false := by
    cases m with
    | zero => omega
    | succ m => rfl
  have start : ∀ {β : Type} (k : Value → St → Rs β), aAppend P st (t :: xt) (.slice (some ⟨b, o, none⟩) n open_) x k = appOpen2 st e sz b o n m nw l (0, 0) k := by
    intro β k
    show (undT P t).bind _ = _
    rw [hu']
    show (szT P e).bind _ = _
    rw [hsz]
    show (bytesT P e).bind _ = _
    rw [hby]
    show (zeroT P e).bind _ = _
    rw [hz]
    show (appSrc P st.heap sz (cellsOf z) xt x).bind _ = _
    rw [hx]
    show ifb (appLim (.slice (some ⟨b, o, none⟩) n open_) m by_ && Nat.beq (lenN (cellsOf z)) sz) (ifb (Nat.beq m 0) (k _ st) (appTo st e sz m nw (.slice (some ⟨b, o, none⟩) n open_) k)) _ = _
    rw [limit_ok rfl h1 h2, lenN_eq, hzl, Nat.beq_refl, hm0]
    show ifb (Nat.blt open_ open_) (ifb (Nat.ble (n + m) open_) (turn st b (o + n * sz) nw (k (sliceTo b o (n + m) open_))) ((srcCells st.heap sz (.slice (some ⟨b, o, none⟩) n open_)).bind fun old => opened st e sz (n + m) (old.2 ++ nw) k)) (appOpen st e sz b o n m nw k (st.heap.get b)) = _
    rw [ifb_blt, if_neg (Nat.lt_irrefl _), hb]
    show ifb (Nat.beq e e && Nat.beq sz sz && Nat.beq (o % sz) 0) (appOpen2 st e sz b o n m nw l (0, 0) k) (.no 79 "") = _
    rw [Nat.beq_refl, Nat.beq_refl, ho]
    rfl
  have hadd : (n + m) * sz = n * sz + m * sz := Nat.add_mul _ _ _
  refine EvO.mk' (fun ih k => ?_) h
  rw [start]
  unfold appOpen2
  rw [ifb_ble, lenN_eq, if_pos hfit, turn_eq hb hone (by omega)]
  rfl
theorem EvO.append0 {P : Program} {st : St} {t e : TypeId} {xt : List TypeId} {sz by_ : Nat} {z x : Value} {a : Option Addr} {n c : Nat} {nw : List Value} {K : Value → St → Prop} (hu : P.underlying t = some (.slice e)) (hsz : szT P e = .ok sz) (hby : bytesT P e = .ok by_) (hz : zeroT P e = .ok z) (hzl : (cellsOf z).length = sz)
    (hx : appSrc P st.heap sz (cellsOf z) xt x = .ok (0, nw)) (h1 : n + 0 ≤ 140737488355328) (h2 : (2 * (n + 0) + 192) * by_ ≤ 281474976710656) (h : K (.slice a n c) st) :
    EvO (fun _ k => aAppend P st (t :: xt) (.slice a n c) x fun v s => k v [] s) K :=
  EvO.mk' (fun ih k => append_zero hu hsz hby hz hzl hx h1 h2 _) h
theorem take_keep {l x : List Value} {o p : Nat} (h1 : o ≤ p) (h2 : p ≤ l.length) : ((l.take p ++ x).drop o).take (p - o) = (l.drop o).take (p - o) := by
  have e : (l.take p).length = p := by rw [List.length_take, Nat.min_eq_left h2]
  rw [List.drop_append_of_le_length (by omega), List.take_append_of_le_length (by rw [List.length_drop]; omega), List.drop_take, List.take_take, Nat.min_self]
theorem room_of {s : St} {e : TypeId} {sz n : Nat} {v : Value} {cs : List Value} (h : Vec s e sz v n cs) (h6 : ∀ c, inBlk v c → inRoom v c) (h0 : 0 < n) (hn : n < open_) : ∃ pb o l, v = .slice (some ⟨pb, o, none⟩) n open_ ∧ s.heap.get pb = some (.cells l e sz true (0, 0)) ∧ o % sz = 0 ∧ (o + n * sz ≤ l.length ∧ o < l.length) ∧ (l.drop o).take (n * sz) = cs := by
  cases h with
  | nil => omega
  | @full a _ _ h =>
    obtain ⟨b, o, sp⟩ := a
    cases sp with
    | some _ => cases h
    | none =>
      obtain ⟨o', n', e⟩ := h6 b ⟨_, _, _, rfl⟩
      cases e
      exact absurd hn (Nat.lt_irrefl _)
  | room hb ho hl hc => exact ⟨_, _, _, rfl, hb, ho, hl, hc⟩
theorem cells_one (L : Pks) (h : ∀ e ∈ L, oneB e.1 = true) : (cellsP L).all oneB = true := by
  rw [List.all_eq_true]
  intro x hx
  obtain ⟨e, he, hx⟩ := List.mem_flatMap.1 hx
  have h0 := h e he
  unfold pkC at hx
  simp only [List.mem_cons, List.not_mem_nil, or_false] at hx
  rcases hx with rfl | rfl | rfl | rfl
  · rfl
  · rfl
  · rfl
  · exact h0
theorem cut_at {w r : List Value} {p n i : Nat} {v : Value} (h : cutN w p n = some r) (hi : r[i]? = some v) : w[p + i]? = some v := by
  obtain ⟨h1, rfl⟩ := cutN_some h
  rw [List.getElem?_take] at hi
  split at hi
  · rw [List.getElem?_drop] at hi; exact hi
  · cases hi
end
end Go.Proofs.Ytpbadpkleiogoaa
