/-
  Summaries: a contract of a function serves in the place of its walk. The sorted keys of a map.
-/
import Derived.Test.YtihplijjkcdcjaaGreatDoorAbsE
import Derived.Test.YtihplijjkcdcjaaGreatDoorDfA
import Derived.Sort.KeysCollected
set_option linter.unusedVariables false
set_option linter.unusedSimpArgs false
namespace Go.Proofs.YtihplijjkcdcjaaGreatDoor.Abs
noncomputable section
set_option linter.unusedVariables false
open Go.RowKit Go.ChangeShapes Go.ChangeMaps Go.WideShapes Go.WideMaps
variable {P : Program} {φ : Phi} {w : World}

/-- a contract, as the evaluator's summaries want it -/
theorem ran_of_calls {f : FuncId} {as : Array Value} {R : Ending → World → Prop} (h : Calls P f as w R) (hR : ∀ e w', R e w' → ∃ v, e = .returned v) (fr : Frame) (cs : List Frame) : ∃ v w', R (.returned v) w' ∧ Ran P .normal fr cs (.enter f as) w v w' := by
  obtain ⟨e, w', fr', h1, h2, _, h4⟩ := h (fr :: cs)
  obtain ⟨v, rfl⟩ := hR e w' h1
  exact ⟨v, w', h1, Steps.trans h2 (.one (step_leave_returned h4))⟩

/-- one new block, others behind all that was there -/
theorem Post.grown {st : St} (k : SRel φ st w) (x : AObj) (o : Obj) (L : Loc) {w' : World} (hb : Below w.heap.size w w') (hL : w.heap.size ≤ L.blk) (hL2 : w'.heap[L.blk]? = some o) (hx : ∀ ψ : Phi, φ.le ψ → ORel ψ L x o) :
    Post φ st w (φ.add st.next L) ⟨st.heap.set st.next x, st.next + 1⟩ w' := by
  have hle : φ.le (φ.add st.next L) := Phi.add_le (k.fresh _ (Nat.le_refl _))
  refine ⟨⟨⟨?_, ?_⟩, ?_, ?_⟩, hle, ⟨hb.size, hb.os, hb.tape, hb.output, ?_⟩, Nat.le_succ _, fun b hb => by simp only [Phi.add]; rw [if_neg (Nat.ne_of_lt hb)]⟩
  · intro b c y z M N hb hc hM hN hMN hcon
    rcases Tr.get_set hb with ⟨rfl, _⟩ | ⟨n1, g1⟩ <;> rcases Tr.get_set hc with ⟨rfl, _⟩ | ⟨n2, g2⟩
    · rfl
    · rw [Phi.add_same] at hM
      obtain rfl := Option.some.inj hM
      simp only [Phi.add, if_neg n2] at hN
      have := k.mem.lt g2 hN
      omega
    · rw [Phi.add_same] at hN
      obtain rfl := Option.some.inj hN
      simp only [Phi.add, if_neg n1] at hM
      have := k.mem.lt g1 hM
      omega
    · simp only [Phi.add, if_neg n1] at hM
      simp only [Phi.add, if_neg n2] at hN
      exact k.mem.inj b c y z M N g1 g2 hM hN hMN hcon
  · intro b y h
    rcases Tr.get_set h with ⟨rfl, rfl⟩ | ⟨n1, g1⟩
    · exact ⟨L, Phi.add_same _ _ _, o, hL2, hx _ hle⟩
    · obtain ⟨M, h1, o', h2, h3⟩ := k.mem.obj b y g1
      exact ⟨M, hle _ _ h1, o', by rw [hb.block _ (k.mem.lt g1 h1)]; exact h2, h3.mono hle⟩
  · intro b hb
    have hb' : st.next + 1 ≤ b := hb
    simp only [Phi.add]
    rw [if_neg (by omega)]
    exact k.fresh b (by omega)
  · intro g hg
    exact hle _ _ (k.globals g hg)
  · intro i hi hn
    refine ⟨hb.block i hi, fun b y M h hM hk => ?_⟩
    rcases Tr.get_set h with ⟨rfl, _⟩ | ⟨n1, g1⟩
    · rw [Phi.add_same] at hM
      obtain rfl := Option.some.inj hM
      omega
    · simp only [Phi.add, if_neg n1] at hM
      exact FrF.own hn b y M g1 hM hk
theorem Post.below {st : St} (k : SRel φ st w) {w' : World} (hb : Below w.heap.size w w') : Post φ st w φ st w' :=
  ⟨⟨⟨k.mem.inj, fun b y h => by
    obtain ⟨M, h1, o', h2, h3⟩ := k.mem.obj b y h
    exact ⟨M, h1, o', by rw [hb.block _ (k.mem.lt h h1)]; exact h2, h3⟩⟩, k.fresh, k.globals⟩, φ.le_refl, ⟨hb.size, hb.os, hb.tape, hb.output, fun i hi hn => ⟨hb.block i hi, FrF.own hn⟩⟩, Nat.le_refl _, fun _ _ => rfl⟩



theorem insB_perm (x : List UInt8) : ∀ l, (insB x l).Perm (x :: l)
  | [] => .refl _
  | y :: l => by
    unfold insB
    rw [ifb_eq]
    split
    · exact ((insB_perm x l).cons y).trans (.swap x y l)
    · exact .refl _
theorem sortB_perm : ∀ l, (sortB l).Perm l
  | [] => .refl _
  | x :: l => (insB_perm x (sortB l)).trans ((sortB_perm l).cons x)
theorem bLess_lt (x y : List UInt8) : bLess x y = decide (x < y) := by
  induction x generalizing y with
  | nil => cases y <;> simp [bLess]
  | cons a x ih =>
    cases y with
    | nil => simp [bLess]
    | cons b y =>
      have h : bLess (a :: x) (b :: y) = ifb (Nat.blt a.toNat b.toNat) true (ifb (Nat.beq a.toNat b.toNat) (bLess x y) false) := rfl
      rw [h, ifb_eq, ifb_eq, ih]
      simp only [List.cons_lt_cons_iff]
      have h1 : (Nat.blt a.toNat b.toNat = true) ↔ a < b := by simp [UInt8.lt_iff_toNat_lt]
      have h2 : (Nat.beq a.toNat b.toNat = true) ↔ a = b := by simp [UInt8.toNat_inj]
      by_cases e1 : a < b
      · rw [if_pos (h1.2 e1)]; simp [e1]
      · rw [if_neg (fun x => e1 (h1.1 x))]
        by_cases e2 : a = b
        · rw [if_pos (h2.2 e2)]; simp [e2]
        · rw [if_neg (fun x => e2 (h2.1 x))]; simp [e1, e2]
theorem insB_sorted (x : List UInt8) : ∀ {l : List (List UInt8)}, l.Pairwise (fun a b => a ≤ b) → (insB x l).Pairwise (fun a b => a ≤ b)
  | [], _ => by simp [insB]
  | y :: l, h => by
    unfold insB
    rw [ifb_eq, bLess_lt]
    obtain ⟨h1, h2⟩ := List.pairwise_cons.1 h
    split
    · rename_i hlt
      refine List.pairwise_cons.2 ⟨fun z hz => ?_, insB_sorted x h2⟩
      rcases List.mem_cons.1 ((insB_perm x l).mem_iff.1 hz) with rfl | hz
      · exact List.le_of_lt (by simpa using hlt)
      · exact h1 z hz
    · rename_i hlt
      have hle : x ≤ y := List.not_lt.1 (by simpa using hlt)
      refine List.pairwise_cons.2 ⟨fun z hz => ?_, h⟩
      rcases List.mem_cons.1 hz with rfl | hz
      · exact hle
      · exact List.le_trans hle (h1 z hz)
theorem sortB_sorted : ∀ l, (sortB l).Pairwise (fun a b => a ≤ b)
  | [] => .nil
  | x :: l => insB_sorted x (sortB_sorted l)
theorem sortB_eq (l : List (List UInt8)) {ss : List (List UInt8)} (h : ss.Perm l) : ss.mergeSort leB = sortB l := by
  have tr : ∀ a b c : List UInt8, leB a b = true → leB b c = true → leB a c = true := fun a b c h1 h2 => by simp only [leB, decide_eq_true_eq] at *; exact List.le_trans h1 h2
  have to : ∀ a b : List UInt8, (leB a b || leB b a) = true := fun a b => by simp only [leB, Bool.or_eq_true, decide_eq_true_eq]; exact List.le_total a b
  refine List.Perm.eq_of_pairwise (le := fun a b => leB a b = true) (fun a b _ _ h1 h2 => ?_) (List.pairwise_mergeSort tr to ss) ((sortB_sorted l).imp fun {a b} h => by simpa [leB] using h) (((List.mergeSort_perm ss leB).trans h).trans (sortB_perm l).symm)
  simp only [leB, decide_eq_true_eq] at h1 h2
  exact List.le_antisymm h1 h2
theorem bornB_spec {clock : Nat} : ∀ {es : List MapEntry} {seen : List Nat}, bornB clock es seen = true → (∀ e ∈ es, e.born < clock) ∧ (es.map (·.born)).Nodup ∧ ∀ e ∈ es, e.born ∉ seen
  | [], _, _ => ⟨fun _ h => (by cases h), .nil, fun _ h => by cases h⟩
  | e :: es, seen, h => by
    obtain ⟨h1, h⟩ := andB h
    rcases orB h with ⟨_, h⟩ | ⟨h2, h⟩
    · cases h
    obtain ⟨h3, h4, h5⟩ := bornB_spec h
    have h6 : e.born ∉ seen := fun hm => by
      have : (seen.any fun x => Nat.beq x e.born) = true := List.any_eq_true.2 ⟨_, hm, Nat.beq_refl _⟩
      rw [h2] at this; cases this
    refine ⟨fun x hx => ?_, ?_, fun x hx => ?_⟩
    · rcases List.mem_cons.1 hx with rfl | hx
      · simpa using h1
      · exact h3 x hx
    · rw [List.map_cons, List.nodup_cons]
      refine ⟨fun hm => ?_, h4⟩
      obtain ⟨x, hx, hb⟩ := List.mem_map.1 hm
      exact h5 x hx (by rw [hb]; exact List.mem_cons_self)
    · rcases List.mem_cons.1 hx with rfl | hx
      · exact h6
      · exact fun hm => h5 x hx (List.mem_cons_of_mem _ hm)
theorem memB_spec {x : List UInt8} : ∀ {l : List (List UInt8)}, x ∈ l → memB x l = true
  | y :: l, h => by
    unfold memB
    rw [ifb_eq]
    split
    · rfl
    · rename_i hne
      rcases List.mem_cons.1 h with rfl | h
      · rw [bEq_eq] at hne; simp at hne
      · exact memB_spec h
theorem nodupB_spec : ∀ {l : List (List UInt8)}, nodupB l = true → l.Nodup
  | [], _ => .nil
  | x :: l, h => by
    unfold nodupB at h
    rcases orB h with ⟨_, h⟩ | ⟨h1, h⟩
    · cases h
    · exact List.nodup_cons.2 ⟨fun hm => (by rw [memB_spec hm] at h1; cases h1), nodupB_spec h⟩
theorem shortB_spec : ∀ {l : List (List UInt8)}, shortB l = true → ∀ x ∈ l, x.length ≤ 1048576
  | y :: l, h, x, hx => by
    obtain ⟨h1, h⟩ := andB h
    rcases List.mem_cons.1 hx with rfl | hx
    · rw [lenN_eq] at h1; simpa using h1
    · exact shortB_spec h x hx

/-- keys that are strings read as themselves -/
theorem keys_of {es fs : List MapEntry} {ks : List (List UInt8)} (hE : EsR φ es fs) (h : mapR (fun x => strOfV x.key) es = .ok ks) : fs.map (·.key) = ks.map mkStr ∧ fs.map (·.born) = es.map (·.born) := by
  induction hE generalizing ks with
  | nil =>
    cases h
    exact ⟨rfl, rfl⟩
  | @cons e f es fs hr _ ih =>
    have h' : (strOfV e.key).bind (fun v => (mapR (fun x => strOfV x.key) es).bind fun vs => Rs.ok (v :: vs)) = .ok ks := h
    obtain ⟨k, h1, h2⟩ := Rs.bind_ok h'
    obtain ⟨ks', h3, h4⟩ := Rs.bind_ok h2
    cases h4
    obtain ⟨r1, r2, r3⟩ := hr
    obtain ⟨i1, i2⟩ := ih h3
    have : f.key = mkStr k := by
      unfold strOfV at h1
      split at h1 <;> first | (cases h1; done) | skip
      rename_i s hs
      cases h1
      rw [hs] at r1
      generalize f.key = q at r1
      cases r1
      rfl
    exact ⟨by simp [this, i1], by simp [i2, r3]⟩
/-- the contract that the kit's shelf lays, at whatever place of the iterator's cell -/
def SortsKeys (P : Program) (f g : FuncId) (e k : TypeId) : Prop :=
  ∀ (Bm b nn : Nat) (D0 : DataW Unit) (R : Value → Option (DataW Unit × List MemPlace)) (W : World), Bm < W.heap.size → W.cell? ⟨Bm, 0, none⟩ = some (.map (some b)) → W.ownsMap P k R b nn D0 → Maps.size D0 ≤ 1048576 →
    Calls P f #[.func (.func g) #[] #[.pointer (some ⟨Bm, 0, none⟩)]] W fun ee w' => ∃ (v : Value) (ss : List (List UInt8)), ee = .returned v ∧ ss.Perm (strKeys D0) ∧ w'.ownsRow W.heap.size e 1 v ss.length ((ss.mergeSort leB).map encStr) ∧ (v = .slice none 0 0 ↔ ss = []) ∧ Below W.heap.size W w'

theorem sumSorted_ok {f g : FuncId} {e k : TypeId} (hk : P.underlying k = some .string) (enter : ∀ args w, (callFunc f args).run P w = .ok (.enter f args) w) (C : SortsKeys P f g e k) {args : List Value} {s : St} {v : Value} {s1 : St} (h : sumSorted g e args s = .ok (v, s1))
    (fr : Frame) (cs : List Frame) {args' : Array Value} (hS : SRel φ s w) (hl : LRel φ args args'.toList) :
    ∃ ψ n w1 v' w', (callFunc f args').run P w = .ok n w1 ∧ Ran P .normal fr cs n w1 v' w' ∧ Post φ s w ψ s1 w' ∧ VRel ψ v v' := by
  unfold sumSorted at h
  split at h <;> first | (cases h; done) | skip
  rename_i f0 b
  obtain ⟨hf0, h1⟩ := ifb_no h
  have hf1 : f0 = g := Nat.eq_of_beq_eq_true hf0
  subst hf1
  clear h
  obtain ⟨a', rfl, ha⟩ := args1 hl
  unfold sumSorted0 at h1
  split at h1 <;> first | (cases h1; done) | skip
  rename_i r l ce cs0 fz hb
  unfold sumSorted1 at h1
  split at h1 <;> first | (cases h1; done) | skip
  rename_i es clock hr
  obtain ⟨hn, h2⟩ := ifb_no h1
  obtain ⟨hborn, h3⟩ := ifb_no h2
  obtain ⟨ks, hks, h4⟩ := Rs.bind_ok h3
  obtain ⟨hnd, h5⟩ := ifb_no h4
  obtain ⟨hsh, h6⟩ := ifb_no h5
  cases ha with
  | @func _ f' _ ys _ us hf s1' s2' s3 s4 =>
    cases hf
    obtain rfl : ys = #[] := Array.eq_empty_of_size_eq_zero (by simpa using s1'.symm)
    obtain ⟨lus⟩ := us
    match lus, s2', s4 with
    | [], s2', _ => exact absurd s2' (by simp)
    | _ :: _ :: _, s2', _ => exact absurd s2' (by simp)
    | [u], _, s4 =>
      have hu := s4 0 _ u rfl rfl
      cases hu with
      | @ptr _ L _ hL =>
        obtain ⟨c, frz, hw, hc, _, hcl, _⟩ := hS.mem.cellsAt hb hL
        obtain ⟨hbase, hcs⟩ := hcl rfl
        obtain ⟨v0, hv0, hv0r⟩ := hc 0 _ rfl
        cases hv0r with
        | @map _ M hM =>
          obtain ⟨fs, hfs, hE⟩ := mapAtL hS hr hM
          obtain ⟨hkeys, hborns⟩ := keys_of hE hks
          obtain ⟨b1, b2, _⟩ := bornB_spec hborn
          have hcell : w.cell? ⟨L.blk, 0, none⟩ = some (.map (some M.blk)) := by
            rw [cell_of hw]
            simpa [hbase] using hv0
          have hlt : L.blk < w.heap.size := (Array.getElem?_eq_some_iff.1 hw).1
          let R : Value → Option (DataW Unit × List MemPlace) := fun _ => some (.nil, [])
          have hread : ∀ x ∈ fs, ∃ q, q ∈ ks ∧ x.key = mkStr q ∧ WideElems.rd P k R x = some (.string q, .nil) := by
            intro x hx
            have : x.key ∈ fs.map (·.key) := List.mem_map_of_mem hx
            rw [hkeys] at this
            obtain ⟨q, hq, hqe⟩ := List.mem_map.1 this
            refine ⟨q, hq, hqe.symm, ?_⟩
            unfold WideElems.rd
            rw [← hqe]
            have := shortB_spec hsh q hq
            have hkey : keyOf P k (mkStr q) = some (.string q) := by
              have := keyOf_string_mk (P := P) (k := k) hk (s := ⟨⟨q⟩⟩) (by
                show q.length ≤ maxLen
                exact Nat.le_trans this (by decide))
              unfold mkStr
              simpa using this
            rw [hkey]
            rfl
          have hrg : fs.map (WideElems.rg P k R) = ks.map fun q => ((Lit.string q, DataW.nil) : Lit × DataW Unit) := by
            have h7 : ∀ (fs : List MapEntry) (ks : List (List UInt8)), fs.map (·.key) = ks.map mkStr → (∀ x ∈ fs, ∃ q, x.key = mkStr q ∧ WideElems.rd P k R x = some (.string q, .nil)) → fs.map (WideElems.rg P k R) = ks.map fun q => ((Lit.string q, DataW.nil) : Lit × DataW Unit) := by
              intro fs
              induction fs with
              | nil => intro ks h _; cases ks with
                | nil => rfl
                | cons => simp at h
              | cons x fs ih =>
                intro ks h hr
                cases ks with
                | nil => simp at h
                | cons q ks =>
                  simp only [List.map_cons, List.cons.injEq] at h
                  obtain ⟨q', h8, h9⟩ := hr x List.mem_cons_self
                  have : q' = q := by
                    have := h8.symm.trans h.1
                    unfold mkStr at this
                    simpa using this
                  subst this
                  simp only [List.map_cons]
                  rw [ih ks h.2 fun y hy => hr y (List.mem_cons_of_mem _ hy)]
                  congr 1
                  unfold WideElems.rg
                  rw [h9]
                  rfl
            exact h7 fs ks hkeys fun x hx => by obtain ⟨q, _, a, b⟩ := hread x hx; exact ⟨q, a, b⟩
          have hlen : fs.length = es.length := by
            have := congrArg List.length hborns
            simpa using this
          have hsize : fs.length ≤ 1048576 := by rw [hlen]; rw [lenN_eq] at hn; simpa using hn
          have hown : w.ownsMap P k R M.blk fs.length (.map ((fs.map (WideElems.rg P k R)).foldr DataW.insert [])) := by
            refine ⟨⟨fs⟩, clock, hfs, ⟨?_, ⟨?_, ?_, ?_⟩, ?_⟩, Nat.le_refl _, rfl⟩
            · exact Nat.le_trans hsize (by decide)
            · intro x hx
              have : x.born ∈ es.map (·.born) := by rw [← hborns]; exact List.mem_map_of_mem hx
              obtain ⟨y, hy, e1⟩ := List.mem_map.1 this
              rw [← e1]
              exact b1 y hy
            · show (fs.map (·.born)).Nodup
              rw [hborns]
              exact b2
            · show (fs.map (·.key)).Nodup
              rw [hkeys]
              refine List.pairwise_map.2 ((nodupB_spec hnd).imp fun {a b} h e1 => h ?_)
              unfold mkStr at e1
              simpa using e1
            · intro x hx
              obtain ⟨q, _, _, h9⟩ := hread x hx
              exact ⟨_, h9⟩
          have hstr : (strKeys (DataW.map ((fs.map (WideElems.rg P k R)).foldr DataW.insert []) : DataW Unit)).Perm ks := by
            show (((fs.map (WideElems.rg P k R)).foldr DataW.insert []).map fun p => strOf p.1).Perm ks
            refine ((WideShapes.sorted_perm (fs.map (WideElems.rg P k R))).map _).trans ?_
            rw [hrg, List.map_map]
            have : (((fun p : Lit × DataW Unit => strOf p.1) ∘ fun q => ((Lit.string q, DataW.nil) : Lit × DataW Unit))) = id := rfl
            rw [this, List.map_id]
          have hms : Maps.size (DataW.map ((fs.map (WideElems.rg P k R)).foldr DataW.insert []) : DataW Unit) ≤ 1048576 := by
            show ((fs.map (WideElems.rg P k R)).foldr DataW.insert []).length ≤ 1048576
            rw [(WideShapes.sorted_perm (fs.map (WideElems.rg P k R))).length_eq, List.length_map]
            exact hsize
          obtain ⟨v', w', ⟨v2, ss, e2, hp, hrow, hnil, hbel⟩, hran⟩ := ran_of_calls (C L.blk M.blk fs.length _ R w hlt hcell hown hms) (fun ee w' hx => by obtain ⟨v, _, e1, _⟩ := hx; exact ⟨v, e1⟩) fr cs
          cases e2
          have hss := hp.trans hstr
          rw [sortB_eq ks hss] at hrow
          have hargs : (#[Value.func (.func f0) #[] ⟨[Value.pointer (some ⟨L.blk, L.base + 0, none⟩)]⟩] : Array Value) = #[.func (.func f0) #[] #[.pointer (some ⟨L.blk, 0, none⟩)]] := by rw [hbase]
          rw [hargs]
          have hlen2 : (sortB ks).length = ss.length := ((sortB_perm ks).length_eq).trans hss.length_eq.symm
          unfold sumSorted2 at h6
          split at h6
          · rename_i hnil2
            cases h6
            have : ss = [] := by
              rw [hnil2] at hlen2
              exact List.length_eq_zero_iff.1 hlen2.symm
            rw [hnil.2 this] at hran
            exact ⟨φ, _, w, _, w', enter _ _, hran, Post.below hS hbel, .nilSlice⟩
          · rename_i x l' hcons
            rw [St.new_eq] at h6
            cases h6
            have hne : ss ≠ [] := fun h => by
              rw [hcons, h] at hlen2
              simp at hlen2
            rcases hrow.2 with ⟨hv, _⟩ | ⟨gb, cap, cur, hv, hg1, hg2, hg3, hg4, hg5, hg6⟩
            · exact absurd (hnil.1 hv) hne
            subst hv
            have hO : ∀ ψ : Phi, φ.le ψ → ORel ψ ⟨gb, 0, 1, cap⟩ (.cells (valsOf (x :: l')) e 1 true (0, 0)) (.cells cur e (0, 0)) := by
              intro ψ _
              refine .room (L := ⟨gb, 0, 1, cap⟩) (by simp) (by simp [hg5]) ?_ (fun i u hu => ?_) (frozen_zero _ _) fun i hi => ⟨_, Array.getElem?_eq_getElem (by simp at hi ⊢; omega)⟩
              · rw [← hcons]
                simp only [valsOf, List.length_map, hlen2]
                omega
              · have h7 : (cur.toList.take (ss.length * 1))[i]? = some u := by
                  rw [hg6, hcons]
                  exact hu
                rw [List.getElem?_take] at h7
                split at h7 <;> first | (cases h7; done) | skip
                have hflat : Flat u := by
                  have : u ∈ valsOf (x :: l') := List.mem_of_getElem? hu
                  obtain ⟨q, _, rfl⟩ := List.mem_map.1 this
                  exact .string _
                exact ⟨u, by simpa using h7, hflat.rel ψ⟩
            have hpo := Post.grown hS (.cells (valsOf (x :: l')) e 1 true (0, 0)) (.cells cur e (0, 0)) ⟨gb, 0, 1, cap⟩ hbel hg1 hg2 hO
            refine ⟨_, _, w, _, w', enter _ _, hran, hpo, ?_⟩
            have h8 := VRel.room (φ := φ.add s.next ⟨gb, 0, 1, cap⟩) (b := s.next) (n := ss.length) (c := cap) (j := 0) (L := ⟨gb, 0, 1, cap⟩) (Phi.add_same _ _ _) (by simp) (by simp) hg3
            have h9 : lenN (x :: l') = ss.length := by rw [lenN_eq, ← hcons, hlen2]
            rw [h9]
            simpa using h8
end
end Go.Proofs.YtihplijjkcdcjaaGreatDoor.Abs
