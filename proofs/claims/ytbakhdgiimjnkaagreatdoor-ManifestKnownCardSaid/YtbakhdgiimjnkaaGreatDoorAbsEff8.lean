/-
  Appends: joined.
-/
import Derived.Test.YtbakhdgiimjnkaaGreatDoorAbsEff7
namespace Go.Proofs.YtbakhdgiimjnkaaGreatDoor.Abs
section
variable {P : Program} {φ : Phi} {st : St} {w : World} {β : Type}

/-- an append that made a new block -/
theorem grown_ok (hS : SRel φ st w) {e : TypeId} {sz nm cap d : Nat} {cs old rest : List Value} {fz : Nat × Nat} {k : Value → St → Rs β} {r : β} {s : Sem Value} (hs : 0 < sz) (hl : LRel φ cs old) (hn : cs.length = nm * sz) (hc : nm ≤ cap) (hr : rest.length = (cap - nm) * sz)
    (hrun : s.run P w = .ok (.slice (some ⟨w.heap.size, 0, none⟩) nm cap) { w with heap := w.heap.push (.cells ⟨old ++ rest⟩ e), drawn := d })
    (h : k (.slice (some ⟨st.next, 0, none⟩) nm open_) ⟨st.heap.set st.next (.cells cs e sz true fz), st.next + 1⟩ = .ok r) : Act P φ st w s k r := by
  have hp := Post.newAt hS (.cells cs e sz true fz) (.cells ⟨old ++ rest⟩ e) ⟨w.heap.size, 0, sz, cap⟩ st.next (st.next + 1) d (hS.fresh _ (Nat.le_refl _)) (Nat.le_refl _) (Nat.lt_succ_self _) (Nat.le_succ _) rfl (room_new fz hs hl hn hc hr)
  refine ⟨_, _, _, _, _, hrun, hp, ?_, h⟩
  have := VRel.room (φ := φ.add st.next ⟨w.heap.size, 0, sz, cap⟩) (b := st.next) (n := nm) (c := cap) (j := 0) (L := ⟨w.heap.size, 0, sz, cap⟩) (Phi.add_same _ _ _) hs (by simp) hc
  simpa using this
theorem Act.pre {st' : St} (hp : Post φ st w φ st' w) {s : Sem Value} {k : Value → St → Rs β} {r : β} (h : Act P φ st' w s k r) : Act P φ st w s k r := by
  obtain ⟨v, st2, ψ, v', w', h1, h2, h3, h4⟩ := h
  exact ⟨v, st2, ψ, v', w', h1, hp.trans h2, h3, h4⟩

/-- the setting of an append -/
structure App (P : Program) (ts : Array TypeId) (args : Array Value) (t e : TypeId) (sz b : Nat) (z x' : Value) (n m : Nat) : Prop where
  ht : ts[0]? = some t
  h1 : args[1]? = some x'
  hu : P.underlying t = some (.slice e)
  hs : szT P e = .ok sz
  hb : bytesT P e = .ok b
  hz : zeroT P e = .ok z
  hlen : (cellsOf z).length = sz
  l1 : n + m ≤ 1073741824
  l2 : b ≤ 1073741824
  l3 : (n + m) * b ≤ 1073741824

theorem App.grow {ts : Array TypeId} {args : Array Value} {t ty e : TypeId} {sz b n m c : Nat} {z x' : Value} (A : App P ts args t e sz b z x' n m) (hS : SRel φ st w) {base : Option Addr} {cs nw old new : List Value} {fz : Nat × Nat} {k : Value → St → Rs β} {r : β}
    (h0 : args[0]? = some (.slice base n c)) (hx : Src P w ts sz b z x' m new) (hnew : LRel φ nw new) (hnl : nw.length = m * sz) (hc : c < n + m) (ho : ∀ d, (Builtin.firstCells sz n (.slice base n c)).run P { w with drawn := d } = .ok ⟨old⟩ { w with drawn := d })
    (hold : LRel φ cs old) (hol : cs.length = n * sz) (hs : 0 < sz)
    (h : k (.slice (some ⟨st.next, 0, none⟩) (n + m) open_) ⟨st.heap.set st.next (.cells (cs ++ nw) e sz true fz), st.next + 1⟩ = .ok r) : Act P φ st w (Builtin.append_ ts ty args) k r := by
  obtain ⟨cap, k1, k2⟩ := app_grow (ty := ty) A.ht h0 A.h1 A.hu A.hs A.hb A.hz A.hlen hx hc ho A.l1 A.l2 A.l3
  exact grown_ok (d := w.drawn + 1) hS hs (hold.append hnew) (by rw [List.length_append, hol, hnl, Nat.add_mul]) k1 (rest := reps (cellsOf z) (cap - (n + m))) (by rw [reps_length, A.hlen]) k2 h
theorem App.stay {ts : Array TypeId} {args : Array Value} {t ty e : TypeId} {sz b n m c : Nat} {z x' : Value} (A : App P ts args t e sz b z x' n m) {base : Option Addr} {new : List Value} (h0 : args[0]? = some (.slice base n c)) (hx : Src P w ts sz b z x' m new) (hc : n + m ≤ c) {w' : World}
    (hw : (putAt base (n * sz) new).run P w = .ok () w') : (Builtin.append_ ts ty args).run P w = .ok (.slice base (n + m) c) w' :=
  app_stay A.ht h0 A.h1 A.hu A.hs A.hb A.hz A.hlen hx hc hw

theorem opened_pos {e : TypeId} {s n : Nat} {cs : List Value} {k : Value → St → Rs β} {r : β} (h : opened st e s n cs k = .ok r) : 0 < s ∧ k (.slice (some ⟨st.next, 0, none⟩) n open_) ⟨st.heap.set st.next (.cells cs e s true (0, 0)), st.next + 1⟩ = .ok r := by
  unfold opened at h
  obtain ⟨h1, h2⟩ := ifb_no' h
  rw [St.new_eq] at h2
  refine ⟨?_, h2⟩
  rcases Nat.eq_zero_or_pos s with x | x
  · subst x; cases h1
  · exact x

/-- in place, or to a new block: the old one is forgotten -/
theorem appOpen_ok {ts : Array TypeId} {args : Array Value} {t ty e : TypeId} {sz b n m c : Nat} {z x' : Value} (A : App P ts args t e sz b z x' n m) (hS : SRel φ st w) {blk j : Nat} {L : Loc} {nw new : List Value} {k : Value → St → Rs β} {r : β}
    (hL : φ blk = some L) (hcap : j + c = L.cap) (h0 : args[0]? = some (.slice (some ⟨L.blk, L.base + j * L.s, none⟩) n c)) (hx : Src P w ts sz b z x' m new) (hnew : LRel φ nw new) (hnl : nw.length = m * sz)
    (h : appOpen st e sz blk (j * L.s) n m nw k (st.heap.get blk) = .ok r) : Act P φ st w (Builtin.append_ ts ty args) k r := by
  unfold appOpen at h
  split at h <;> first | (cases h; done) | skip
  rename_i l e' s' fz hb
  obtain ⟨h1, h2⟩ := ifb_no h
  simp only [Bool.and_eq_true] at h1
  obtain rfl := Nat.eq_of_beq_eq_true h1.1.1
  obtain rfl := Nat.eq_of_beq_eq_true h1.1.2
  obtain ⟨o, hw, hO⟩ := hS.mem.objAt hb hL
  cases hO with
  | @room _ _ _ fr cc hs hn hl hc hf ho =>
  unfold appOpen2 at h2
  have hcs : j * L.s + c * L.s = L.cap * L.s := by rw [← Nat.add_mul, hcap]
  have haddr : (⟨L.blk, L.base + j * L.s, none⟩ : Addr).add (n * L.s) = ⟨L.blk, L.base + (j * L.s + n * L.s), none⟩ := by rw [add_none, Nat.add_assoc]
  rcases ifb_ok h2 with ⟨c1, c2⟩ | ⟨c1, c2⟩
  · have c1' : j * L.s + (n + m) * L.s ≤ l.length := by rw [← lenN_eq]; simpa using c1
    have hfit : n + m ≤ c := by
      have : (n + m) * L.s ≤ c * L.s := by omega
      exact Nat.le_of_mul_le_mul_right this hs
    obtain ⟨st', w', r1, r2, r3, _⟩ := turn_ok (P := P) hS hL c2 hnew
    refine ⟨_, st', φ, _, w', A.stay h0 hx hfit ?_, r2, VRel.room hL hs hcap hfit, r3⟩
    show (storeCells ((⟨L.blk, L.base + j * L.s, none⟩ : Addr).add (n * L.s)) new).run P w = _
    rw [haddr]
    exact r1
  · obtain ⟨c3, c4⟩ := ifb_no c2
    obtain ⟨c5, c6⟩ := ifb_no c4
    obtain ⟨old, hcut, c7⟩ := Rs.bind_ok c6
    rw [St.kill_eq, St.new_eq] at c7
    have hcut' := Rs.of_ok hcut
    obtain ⟨hlen, hold⟩ := cutN_some hcut'
    have hol : old.length = n * L.s := by
      rw [hold, List.length_take, List.length_drop]
      omega
    obtain ⟨olds, ho1, ho2⟩ := load_any (P := P) rfl rfl hw hc hcut'
    by_cases hfit : n + m ≤ c
    · -- in place
      have hmul : (n + m) * L.s ≤ c * L.s := Nat.mul_le_mul_right _ hfit
      rw [Nat.add_mul] at hmul
      have hnl' : new.length = m * L.s := by rw [← hnew.1]; exact hnl
      have h1c : ∀ v ∈ new, v.oneCell' = true := by
        intro v hm
        obtain ⟨i, hi⟩ := List.mem_iff_getElem?.1 hm
        have hlt : i < nw.length := by
          rcases Nat.lt_or_ge i new.length with x | x
          · omega
          · rw [List.getElem?_eq_none x] at hi; cases hi
        exact (hnew.2 i _ v (List.getElem?_eq_getElem hlt) hi).one (List.all_eq_true.1 c5 _ (List.getElem_mem hlt))
      have hfz : (fz.1 = 0 ∧ fz.2 = 0) ∨ (fz.1 = open_ ∧ fz.2 = open_) ∨ (j * L.s = 0 ∧ fz.2 ≤ n) := by
        simp only [Bool.or_eq_true, Bool.and_eq_true] at c3
        rcases c3 with (⟨x, y⟩ | ⟨x, y⟩) | ⟨x, y⟩
        · exact .inl ⟨Nat.eq_of_beq_eq_true x, Nat.eq_of_beq_eq_true y⟩
        · exact .inr (.inl ⟨Nat.eq_of_beq_eq_true x, Nat.eq_of_beq_eq_true y⟩)
        · exact .inr (.inr ⟨Nat.eq_of_beq_eq_true x, by simpa using y⟩)
      have hns : n ≤ n * L.s := Nat.le_mul_of_pos_right n hs
      have hfr : ∀ i, 0 ≤ i → i < 0 + new.length → ¬ (fr.1 ≤ L.base + (j * L.s + n * L.s) + i ∧ L.base + (j * L.s + n * L.s) + i < fr.2) := by
        rintro i _ hi ⟨f1, f2⟩
        have := hf.1 (j * L.s + n * L.s + i) (by omega) (by omega) (by omega)
        rcases hfz with ⟨x, y⟩ | ⟨x, y⟩ | ⟨x, y⟩ <;> omega
      obtain ⟨c', r1, r2⟩ := run_store_list (P := P) L.blk (L.base + (j * L.s + n * L.s)) e fr new 0 w cc hw h1c (by omega) hfr
      simp only [Nat.add_zero] at r2
      have hbs : L.blk < w.heap.size := (Array.getElem?_eq_some_iff.1 hw).1
      have hc'sz : c'.size = cc.size := by
        have := congrArg List.length r2
        simp at this
        omega
      have hcells : ∀ i v, (old ++ nw)[i]? = some v → ∃ v', c'[L.base + j * L.s + i]? = some v' ∧ VRel φ v v' := by
        intro i v hi
        have hg : c'[L.base + j * L.s + i]? = (cc.toList.take (L.base + (j * L.s + n * L.s)) ++ (new ++ cc.toList.drop (L.base + (j * L.s + n * L.s) + new.length)))[L.base + j * L.s + i]? := by rw [← r2]; simp
        rw [hg]
        have htl : (cc.toList.take (L.base + (j * L.s + n * L.s))).length = L.base + (j * L.s + n * L.s) := by simp; omega
        by_cases hi1 : i < n * L.s
        · rw [List.getElem?_append_left (by omega)] at hi
          rw [List.getElem?_append_left (by omega), List.getElem?_take, if_pos (by omega)]
          rw [hold, List.getElem?_take, if_pos hi1, List.getElem?_drop] at hi
          obtain ⟨v', x, y⟩ := hc _ v hi
          exact ⟨v', by rw [← Nat.add_assoc] at x; simpa using x, y⟩
        · rw [List.getElem?_append_right (by omega), hol] at hi
          rw [List.getElem?_append_right (by omega), htl]
          have hi2 : i - n * L.s < nw.length := by
            rcases Nat.lt_or_ge (i - n * L.s) nw.length with x | x
            · exact x
            · rw [List.getElem?_eq_none x] at hi; cases hi
          rw [List.getElem?_append_left (by rw [← hnew.1]; omega), show L.base + j * L.s + i - (L.base + (j * L.s + n * L.s)) = i - n * L.s by omega]
          exact hnew.get hi
      let L' : Loc := ⟨L.blk, L.base + j * L.s, L.s, c⟩
      have hO' : ∀ ψ : Phi, φ.le ψ → ORel ψ L' (.cells (old ++ nw) e L.s true fz) (.cells c' e fr) := by
        intro ψ hle
        refine .room (L := L') hs (by show L.base + j * L.s + c * L.s ≤ c'.size; omega) (by show (old ++ nw).length ≤ c * L.s; rw [List.length_append]; omega) (fun i v hi => ?_) ⟨?_, ?_, hf.2.2.1, ?_⟩ fun i hi => ?_
        · obtain ⟨v', x, y⟩ := hcells i v hi
          exact ⟨v', x, y.mono hle⟩
        · intro i hi f1 f2
          have hi' : i < c * L.s := hi
          have f1' : fr.1 ≤ L.base + j * L.s + i := f1
          have f2' : L.base + j * L.s + i < fr.2 := f2
          have := hf.1 (j * L.s + i) (by omega) (by omega) (by omega)
          rcases hfz with ⟨x, y⟩ | ⟨x, y⟩ | ⟨x, y⟩ <;> omega
        · intro f0 f1
          show L.base + j * L.s + fz.1 ≤ fr.1 ∧ fr.2 ≤ L.base + j * L.s + fz.2
          have := hf.2.1 f0 f1
          rcases hfz with ⟨x, y⟩ | ⟨x, y⟩ | ⟨x, y⟩ <;> omega
        · intro f0
          rcases hf.2.2.2 f0 with f1 | f1
          · exact .inl f1
          · exact .inr (by show L.base + j * L.s + c * L.s ≤ fr.1; omega)
        · have hi' : i < c * L.s := hi
          exact ⟨_, Array.getElem?_eq_getElem (by show L.base + j * L.s + i < c'.size; omega)⟩
      have hp := Post.move (L' := L') (w' := { w with heap := w.heap.setIfInBounds L.blk (.cells c' e fr) }) hS hb rfl hL rfl ⟨by simp, rfl, rfl, rfl⟩ (fun i hi => Array.getElem?_setIfInBounds_ne (fun e => hi e.symm)) ⟨.cells c' e fr, by simp [hbs], hO'⟩
      refine ⟨_, _, _, _, _, A.stay h0 hx hfit ?_, hp, ?_, c7⟩
      · show (storeCells ((⟨L.blk, L.base + j * L.s, none⟩ : Addr).add (n * L.s)) new).run P w = _
        rw [haddr]
        exact r1
      · have := VRel.room (φ := φ.add st.next L') (b := st.next) (n := n + m) (c := c) (j := 0) (L := L') (Phi.add_same _ _ _) hs (by simp [L']) hfit
        simpa [L', sliceTo] using this
    · exact Act.pre (Post.kill hS blk) (A.grow (Post.kill hS blk).rel h0 hx hnew hnl (by omega) ho1 ho2 hol hs c7)

/-- an append to the end of a block with room -/
theorem appFull_ok {ts : Array TypeId} {args : Array Value} {t ty e : TypeId} {sz b m o : Nat} {z x' : Value} (A : App P ts args t e sz b z x' 0 m) (hS : SRel φ st w) {blk : Nat} {L : Loc} {a : Addr} {nw new : List Value} {k : Value → St → Rs β} {r : β}
    (hL : φ blk = some L) (hO : o = L.cap * L.s) (hm : 0 < m) (h0 : args[0]? = some (.slice (some a) 0 0)) (hx : Src P w ts sz b z x' m new) (hnew : LRel φ nw new) (hnl : nw.length = m * sz)
    (h : appOpen st e sz blk o 0 m nw k (st.heap.get blk) = .ok r) : Act P φ st w (Builtin.append_ ts ty args) k r := by
  unfold appOpen at h
  split at h <;> first | (cases h; done) | skip
  rename_i l e' s' fz hb
  obtain ⟨h1, h2⟩ := ifb_no h
  simp only [Bool.and_eq_true] at h1
  obtain rfl := Nat.eq_of_beq_eq_true h1.1.1
  obtain rfl := Nat.eq_of_beq_eq_true h1.1.2
  obtain ⟨ob, hw, hR⟩ := hS.mem.objAt hb hL
  cases hR with
  | @room _ _ _ fr cc hs hn hl hc hf ho =>
  unfold appOpen2 at h2
  rcases ifb_ok h2 with ⟨c1, c2⟩ | ⟨c1, c2⟩
  · have c1' : o + (0 + m) * L.s ≤ l.length := by rw [← lenN_eq]; simpa using c1
    have : 0 < (0 + m) * L.s := Nat.mul_pos (by omega) hs
    omega
  · obtain ⟨c3, c4⟩ := ifb_no c2
    obtain ⟨c5, c6⟩ := ifb_no c4
    obtain ⟨old, hcut, c7⟩ := Rs.bind_ok c6
    rw [St.kill_eq, St.new_eq] at c7
    obtain ⟨hlen, hold⟩ := cutN_some (Rs.of_ok hcut)
    have hol : old = [] := by rw [hold]; simp
    refine Act.pre (Post.kill hS blk) (A.grow (Post.kill hS blk).rel h0 hx hnew hnl (by omega) (old := []) (cs := old) (fun d => ?_) (by rw [hol]; exact .nil φ) (by rw [hol]; simp) hs c7)
    unfold Builtin.firstCells
    simp only [Nat.zero_mul]
    rfl

theorem aAppend_ok (hS : SRel φ st w) {ts : Array TypeId} {ty : TypeId} {args : Array Value} {s x s' x' : Value} {k : Value → St → Rs β} {r : β} (h : aAppend P st ts.toList s x k = .ok r) (h0 : args[0]? = some s') (h1 : args[1]? = some x') (hs : VRel φ s s') (hx : VRel φ x x') :
    Act P φ st w (Builtin.append_ ts ty args) k r := by
  unfold aAppend at h
  split at h <;> first | (cases h; done) | skip
  rename_i t xt hts
  obtain ⟨u, hu, e1⟩ := Rs.bind_ok h
  split at e1 <;> first | (cases e1; done) | skip
  rename_i e
  obtain ⟨sz, hsz, e2⟩ := Rs.bind_ok e1
  obtain ⟨b, hb, e3⟩ := Rs.bind_ok e2
  obtain ⟨z, hz, e4⟩ := Rs.bind_ok e3
  obtain ⟨⟨m, nw⟩, hq, e5⟩ := Rs.bind_ok e4
  obtain ⟨h2, h3⟩ := ifb_no e5
  simp only [Bool.and_eq_true] at h2
  have hlen : (cellsOf z).length = sz := by rw [← lenN_eq]; exact Nat.eq_of_beq_eq_true h2.2
  have ht : ts[0]? = some t := by
    have : ts[0]? = ts.toList[0]? := by simp
    rw [this, hts]; rfl
  obtain ⟨base0, n, c0, rfl⟩ : ∃ base0 n c0, s = .slice base0 n c0 := by
    have := h2.1
    unfold appLim at this
    split at this
    · exact ⟨_, _, _, rfl⟩
    · cases this
  have hlim := h2.1
  unfold appLim at hlim
  simp only [Bool.and_eq_true, Nat.ble_eq] at hlim
  have A : App P ts args t e sz b z x' n m := ⟨ht, h1, undT_ok hu, hsz, hb, hz, hlen, hlim.1, hlim.2.1, hlim.2.2⟩
  have hmb : m * b ≤ 1073741824 := by
    have := Nat.mul_le_mul_right b (Nat.le_add_left m n)
    omega
  obtain ⟨new, hsrc, hnew, hnl⟩ := appSrc_ok (P := P) hS.mem (zeroT_ok hz).2 hts hq hmb hlen hx
  simp only at h3
  rcases ifb_ok h3 with ⟨c1, c2⟩ | ⟨c1, c2⟩
  · have hm : m = 0 := Nat.eq_of_beq_eq_true c1
    subst hm
    have hn0 : new = [] := by
      have := hnew.1
      rw [hnl, Nat.zero_mul] at this
      exact List.eq_nil_of_length_eq_zero this.symm
    subst hn0
    have fin : ∀ base c, s' = .slice base n c → n ≤ c → Act P φ st w (Builtin.append_ ts ty args) k r := by
      intro base c hs' hc
      subst hs'
      refine ⟨_, st, φ, _, w, A.stay h0 hsrc hc (w' := w) (by cases base <;> rfl), .refl hS, ?_, c2⟩
      exact hs
    cases hs with
    | nilSlice => exact fin _ _ rfl (Nat.le_refl _)
    | slice o hL hc hn => exact fin _ _ rfl hn
    | room hL hs hc hn => exact fin _ _ rfl hn
    | full a hL ho => exact fin _ _ rfl (Nat.le_refl _)
  · have hm : 0 < m := by
      rcases Nat.eq_zero_or_pos m with x | x
      · subst x; cases c1
      · exact x
    unfold appTo at c2
    cases hs with
    | nilSlice =>
      simp only at c2
      obtain ⟨p1, p2⟩ := opened_pos c2
      refine A.grow hS h0 hsrc hnew hnl (by omega) (old := []) (cs := []) (fun d => rfl) (.nil φ) (by simp) p1 (by simpa using p2)
    | @slice _ _ _ L o hL hc hn =>
      simp only at c2
      rcases ifb_ok c2 with ⟨d1, d2⟩ | ⟨d1, d2⟩
      · rcases ifb_ok d2 with ⟨f1, f2⟩ | ⟨f1, f2⟩
        · have hfit : n + m ≤ c0 := by simpa using f1
          obtain ⟨st', w', r1, r2, r3, _⟩ := turn_ok (P := P) hS hL f2 hnew
          refine ⟨_, st', φ, _, w', A.stay h0 hsrc hfit ?_, r2, .slice o hL hc hfit, r3⟩
          show (storeCells ((⟨L.blk, L.base + o, none⟩ : Addr).add (n * sz)) new).run P w = _
          rw [add_none, Nat.add_assoc]
          exact r1
        · have hfit : ¬ n + m ≤ c0 := by
            intro hh
            rw [Nat.ble_eq_true_of_le hh] at f1
            cases f1
          obtain ⟨⟨n', cs⟩, g1, g2⟩ := Rs.bind_ok f2
          have hn' := srcCells_n g1
          simp only at hn'
          subst hn'
          obtain ⟨p1, p2⟩ := opened_pos g2
          obtain ⟨k1, k2⟩ := srcCells_ok (P := P) hS.mem g1 (.slice o hL hc hn)
          obtain ⟨old, k3, k4⟩ := k2 _ (Nat.le_refl _)
          have hcl := srcCells_len g1
          rw [List.take_of_length_le (by omega)] at k4
          exact A.grow hS h0 hsrc hnew hnl (by omega) k3 k4 hcl p1 p2
      · have : ¬ c0 < open_ := by
          intro hh
          have : Nat.blt c0 open_ = true := by simpa using hh
          rw [this] at d1
          cases d1
        exact absurd hc this
    | @room _ _ c j L hL hs hc hn =>
      simp only at c2
      rcases ifb_ok c2 with ⟨d1, d2⟩ | ⟨d1, d2⟩
      · have : Nat.blt open_ open_ = true := d1
        simp at this
      · exact appOpen_ok A hS hL hc h0 hsrc hnew hnl d2
    | full a hL ho =>
      simp only at c2
      rcases ifb_ok c2 with ⟨d1, d2⟩ | ⟨d1, d2⟩
      · have : Nat.blt open_ open_ = true := d1
        simp at this
      · exact appFull_ok A hS hL ho hm h0 hsrc hnew hnl d2
end
end Go.Proofs.YtbakhdgiimjnkaaGreatDoor.Abs
