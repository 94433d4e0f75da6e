/-
  The evaluator and what is proved of it (several texts in one).
-/
import Derived.Test.YtbakhdgiimjnkaaGreatDoorManEnc
import Derived.Test.YtbakhdgiimjnkaaGreatDoorPlA
import Derived.Test.YtbakhdgiimjnkaaGreatDoorCtA
import Derived.Test.YtbakhdgiimjnkaaGreatDoorEvSet
set_option linter.unusedVariables false
set_option linter.unusedSimpArgs false
/-
  simdisk, the directory: what good, do and changed do, at the evaluator.
-/
namespace Go.Proofs.YtbakhdgiimjnkaaGreatDoor
open Abs
set_option maxHeartbeats 16000000
set_option maxRecDepth 20000
set_option linter.unusedSimpArgs false
attribute [local irreducible] Abs.Ev Abs.EvF Abs.EvO Abs.EvA Abs.Seq Abs.Blk Abs.Body Abs.Scp Abs.EvG Abs.EvAg Abs.Nx
attribute [local go_sem] Tryz.underlying2 Ty.sz2 Ty.by2 Ty.ag2 Ty.ze2 Tryz.underlying3 Ty.sz3 Ty.by3 Ty.ag3 Ty.ze3 Tryz.underlying4 Ty.sz4 Ty.by4 Ty.ag4 Ty.ze4 Tryz.underlying5 Ty.sz5 Ty.by5 Ty.ag5 Ty.ze5 Tryz.underlying9 Ty.sz9 Ty.by9 Ty.ag9 Ty.ze9 Tryz.underlying24 Ty.sz24 Ty.by24 Ty.ag24 Ty.ze24 Tryz.underlying28 Ty.sz28 Ty.by28 Ty.ag28 Ty.ze28 Tryz.underlying29 Ty.sz29 Ty.by29 Ty.ag29 Ty.ze29 Tryz.underlying34 Ty.sz34 Ty.by34 Ty.ag34 Ty.ze34 Tryz.underlying46 Ty.sz46 Ty.by46 Ty.ag46 Ty.ze46 Tryz.underlying88 Ty.sz88 Ty.by88 Ty.ag88 Ty.ze88 Tryz.underlying89 Ty.sz89 Ty.by89 Ty.ag89 Ty.ze89 Tryz.underlying94 Ty.sz94 Ty.by94 Ty.ag94 Ty.ze94 Tryz.underlying96 Ty.sz96 Ty.by96 Ty.ag96 Ty.ze96 Tryz.underlying98 Ty.sz98 Ty.by98 Ty.ag98 Ty.ze98 Tryz.underlying101 Ty.sz101 Ty.by101 Ty.ag101 Ty.ze101 Tryz.underlying103 Ty.sz103 Ty.by103 Ty.ag103 Ty.ze103
section
variable {Sm : Summ} {Q : Ans → Prop}
def letters : List UInt8 := [97, 98, 99, 100, 101, 102, 103, 104, 105, 106, 107, 108, 109, 110, 111, 112, 113, 114, 115, 116, 117, 118, 119, 120, 121, 122, 48, 49, 50, 51, 52, 53, 54, 55, 56, 57, 46, 45, 95]
/-- may a name be? -/
def GoodN (l : List UInt8) : Prop := 1 ≤ l.length ∧ l.length ≤ 64 ∧ ∀ c ∈ l, c ∈ letters
theorem inSet_dec (cs : List UInt8) (c : UInt8) : inSet cs c = decide (c ∈ cs) := by
  induction cs with
  | nil => rfl
  | cons x cs ih =>
    show ifb (Nat.beq x.toNat c.toNat) true (inSet cs c) = _
    rw [ih, beqNat, ifb_eq]
    by_cases h : x = c
    · subst h; simp
    · have h' : ¬ c = x := fun e => h e.symm
      simp [h, h']
theorem dropIn_all (cs : List UInt8) : ∀ l, dropIn cs l = [] ↔ ∀ c ∈ l, c ∈ cs
  | [] => by simp [dropIn]
  | x :: l => by
    show ifb (inSet cs x) (dropIn cs l) (x :: l) = [] ↔ _
    rw [inSet_dec, ifb_eq]
    by_cases h : x ∈ cs
    · simp only [h, decide_true, if_true, dropIn_all cs l, List.mem_cons, forall_eq_or_imp, true_and]
    · simp [h]
theorem dropIn_idem (cs : List UInt8) : ∀ l, dropIn cs (dropIn cs l) = dropIn cs l
  | [] => rfl
  | x :: l => by
    have e : dropIn cs (x :: l) = ifb (inSet cs x) (dropIn cs l) (x :: l) := rfl
    rw [e, ifb_eq]
    by_cases h : inSet cs x = true
    · rw [if_pos h]
      exact dropIn_idem cs l
    · rw [if_neg h, e, ifb_eq, if_neg h]
theorem trim_all (cs l : List UInt8) : dropIn cs (trimR cs l) = [] ↔ ∀ c ∈ l, c ∈ cs := by
  constructor
  · intro h c hc
    have h1 : trimR cs l = [] := by
      have h2 := (dropIn_all cs (trimR cs l)).1 h
      unfold trimR at h2 ⊢
      generalize hd : dropIn cs l.reverse = m at *
      cases m with
      | nil => rfl
      | cons x m =>
        exfalso
        have hx : x ∈ cs := h2 x (by simp)
        have : dropIn cs (dropIn cs l.reverse) = dropIn cs l.reverse := dropIn_idem cs _
        rw [hd] at this
        have h3 : dropIn cs (x :: m) = ifb (inSet cs x) (dropIn cs m) (x :: m) := rfl
        rw [h3, inSet_dec, show decide (x ∈ cs) = true by simpa using hx] at this
        have h4 : (dropIn cs m).length = (x :: m).length := congrArg List.length this
        have h5 := dropIn_len cs m
        rw [List.length_cons] at h4
        omega
    unfold trimR at h1
    have h2 : dropIn cs l.reverse = [] := by simpa using h1
    exact (dropIn_all cs l.reverse).1 h2 c (by simpa using hc)
  · intro h
    have h1 : dropIn cs l.reverse = [] := (dropIn_all cs _).2 fun c hc => h c (by simpa using hc)
    unfold trimR
    rw [h1]
    rfl
def fileV (o : Option Nat) : Value :=
  match o with
  | none => .pointer none
  | some f => ptrV f
def chgC (c : Chg) : List Value := [.string ⟨⟨c.name⟩⟩, fileV c.file, .string ⟨⟨c.gone⟩⟩]
def chgsC : List Chg → List Value
  | [] => []
  | c :: l => chgC c ++ chgsC l
theorem chgsC_append (a b : List Chg) : chgsC (a ++ b) = chgsC a ++ chgsC b := by
  induction a with
  | nil => rfl
  | cons f a ih => show chgC f ++ chgsC (a ++ b) = (chgC f ++ chgsC a) ++ chgsC b; rw [ih, List.append_assoc]
theorem dgood_ev (hs : Sm 55 = none) (ht : Sm 84 = some sumTrim) {s : St} (hwf : s.wf) {l : List UInt8} (hl : l.length ≤ 1073741824) (hT : GoodN l → ∀ s', Keep s s' → Q (.val (.bool true) s')) (hF : ¬ GoodN l → ∀ s', Keep s s' → Q (.val (.bool false) s')) :
    Ev Tryz.prog Sm (.inv (.fn (.func 55) #[]) [.string ⟨⟨l⟩⟩] s) Q := by
  refine Ev.func hs Tryz.func55 rfl (m := 16) rfl ?_
  simp only [Array.toList_empty, List.append_nil, ofList_cons, ofList_nil]
  by_cases h0 : 1 ≤ l.length ∧ l.length ≤ 64
  · have hlow : allLow letters = true := by decide
    have e : sumTrim [.string ⟨⟨l⟩⟩, .string ⟨⟨letters⟩⟩] s = .ok (mkStr (dropIn letters (trimR letters l)), ⟨s.heap, s.next + 2⟩) := by
      unfold sumTrim
      simp only [hlow, lenN_eq]
      rw [show Nat.blt 1 letters.length = true by decide, show Nat.ble letters.length 1073741824 = true by decide, show Nat.blt 0 l.length = true by simp; omega, show Nat.ble l.length 1073741824 = true by simp; omega]
      rfl
    (try first | refine EvO.nx ?_ | refine EvA.nx ?_); repeat' (first | refine Abs.go ?_ | with_reducible refine Abs.fork (fun hb => ?_) (fun hb => ?_))
    refine Ev.summ ht e ⟨_, _, rfl, ?_⟩
    have hk : Keep s ⟨s.heap, s.next + 2⟩ := (Keep.refl hwf).grow (Nat.le_add_right _ _)
    by_cases hg : dropIn letters (trimR letters l) = []
    · rw [hg]
      (try first | refine EvO.nx ?_ | refine EvA.nx ?_); repeat' (first | refine Abs.go ?_ | with_reducible refine Abs.fork (fun hb => ?_) (fun hb => ?_))
      exact hT ⟨h0.1, h0.2, (trim_all _ _).1 hg⟩ _ hk
    · have hg2 : (dropIn letters (trimR letters l) == []) = false := by simpa using hg
      (try first | refine EvO.nx ?_ | refine EvA.nx ?_); repeat' (first | refine Abs.goH hg2 ?_ | with_reducible refine Abs.fork (fun hb => ?_) (fun hb => ?_))
      exact hF (fun h => hg ((trim_all _ _).2 h.2.2)) _ hk
  · (try first | refine EvO.nx ?_ | refine EvA.nx ?_); repeat' (first | refine Abs.go ?_ | with_reducible refine Abs.fork (fun hb => ?_) (fun hb => ?_))
    all_goals exact hF (fun h => h0 ⟨h.1, h.2.1⟩) _ (Keep.refl hwf)
theorem keysS : KeyOf Tryz.prog 9 mkStr := Abs.keyOf_str Tryz.underlying9
attribute [local go_sem] fileV
theorem do_ev (hs : Sm 66 = none) {s : St} (hwf : s.wf) {c : Chg} {m : Nat} {l : Nms} (hm : MapAt s m mkStr ptrV l)
    (h : ∀ s', s'.wf → s.next ≤ s'.next → MapAt s' m mkStr ptrV (c.go l) → (∀ b x, b ≠ m → s.heap.get b = some x → s'.heap.get b = some x) → Q (.val (.tuple #[]) s')) :
    Ev Tryz.prog Sm (.inv (.fn (.func 66) #[]) [.agg ⟨chgC c⟩, .map (some m)] s) Q := by
  refine Ev.func hs Tryz.func66 rfl (m := 18) rfl ?_
  simp only [Array.toList_empty, List.append_nil, ofList_cons, ofList_nil]
  obtain ⟨nm, fo, gn⟩ := c
  unfold chgC
  simp only
  have hml := hm.lt hwf
  have hk1 := (Keep.refl hwf).new (.cells [.string ⟨⟨nm⟩⟩, fileV fo, .string ⟨⟨gn⟩⟩] 103 0 false (0, 0))
  have hm1 := hm.mono (s' := ⟨s.heap.set s.next (.cells [.string ⟨⟨nm⟩⟩, fileV fo, .string ⟨⟨gn⟩⟩] 103 0 false (0, 0)), s.next + 1⟩) fun x hx => hk1.old _ _ hx
  have hc1 := get_same s.heap s.next (AObj.cells [.string ⟨⟨nm⟩⟩, fileV fo, .string ⟨⟨gn⟩⟩] 103 0 false (0, 0))
  by_cases hg : gn = []
  · subst hg
    cases fo with
    | none =>
      (try first | refine EvO.nx ?_ | refine EvA.nx ?_); repeat' (first | refine Abs.go ?_ | with_reducible refine Abs.fork (fun hb => ?_) (fun hb => ?_))
      exact h _ hk1.wf hk1.next hm1 fun b x _ hx => hk1.old _ _ hx
    | some f =>
      (try first | refine EvO.nx ?_ | refine EvA.nx ?_); repeat' (first | refine Abs.go ?_ | with_reducible refine Abs.fork (fun hb => ?_) (fun hb => ?_))
      refine EvO.mput (κ := mkStr) (ν := ptrV) (k := nm) (v := f) Tryz.underlying88 keysS hk1.wf hm1 fun s2 m1 m2 m3 m4 => ?_
      (try first | refine EvO.nx ?_ | refine EvA.nx ?_); repeat' (first | refine Abs.go ?_ | with_reducible refine Abs.fork (fun hb => ?_) (fun hb => ?_))
      exact h _ m3 (by rw [m2]; exact Nat.le_succ _) m1 fun b x hb hx => m4 b x hb (hk1.old _ _ hx)
  · have hg2 : (gn == []) = false := by simpa using hg
    have e : ∀ (l : Nms) (o : Option Nat), Chg.go l ⟨nm, o, gn⟩ = match o with | none => adel l gn | some f => aput (adel l gn) nm f := fun l o => by
      cases o <;> simp [Chg.go, hg]
    rw [e] at h
    cases fo with
    | none =>
      (try first | refine EvO.nx ?_ | refine EvA.nx ?_); repeat' (first | refine Abs.goH hg2 ?_ | with_reducible refine Abs.fork (fun hb => ?_) (fun hb => ?_))
      refine EvO.mdel (κ := mkStr) (ν := ptrV) (k := gn) Tryz.underlying88 keysS hk1.wf hm1 fun s2 m1 m2 m3 m4 => ?_
      have hc2 := m4 s.next _ (by omega) hc1
      (try first | refine EvO.nx ?_ | refine EvA.nx ?_); repeat' (first | refine Abs.goH hc2 ?_ | with_reducible refine Abs.fork (fun hb => ?_) (fun hb => ?_))
      exact h _ m3 (by rw [m2]; exact Nat.le_succ _) m1 fun b x hb hx => m4 b x hb (hk1.old _ _ hx)
    | some f =>
      (try first | refine EvO.nx ?_ | refine EvA.nx ?_); repeat' (first | refine Abs.goH hg2 ?_ | with_reducible refine Abs.fork (fun hb => ?_) (fun hb => ?_))
      refine EvO.mdel (κ := mkStr) (ν := ptrV) (k := gn) Tryz.underlying88 keysS hk1.wf hm1 fun s2 m1 m2 m3 m4 => ?_
      have hc2 := m4 s.next _ (by omega) hc1
      (try first | refine EvO.nx ?_ | refine EvA.nx ?_); repeat' (first | refine Abs.goH hc2 ?_ | with_reducible refine Abs.fork (fun hb => ?_) (fun hb => ?_))
      refine EvO.mput (κ := mkStr) (ν := ptrV) (k := nm) (v := f) Tryz.underlying88 keysS m3 m1 fun s3 p1 p2 p3 p4 => ?_
      (try first | refine EvO.nx ?_ | refine EvA.nx ?_); repeat' (first | refine Abs.go ?_ | with_reducible refine Abs.fork (fun hb => ?_) (fun hb => ?_))
      exact h _ p3 (by rw [p2, m2]; exact Nat.le_succ _) p1 fun b x hb hx => p4 b x hb (m4 b x hb (hk1.old _ _ hx))
/-- a disk, as it lies: O: the blocks that are its own; I: its files -/
structure DkAt (s : St) (O : Nat → Prop) (b : Nat) (d : DD) (F : Fs) (I : Nat → Prop) : Prop where
  ex : ∃ mn ms cv, s.heap.get b = some (.cells [.int .i64 d.quota, .map (some mn), .map (some ms), cv, .int .i64 d.appends, .int .i64 d.syncs] 96 0 false (0, 0)) ∧ mn ≠ ms ∧ O mn ∧ O ms ∧ MapAt s mn mkStr ptrV d.names ∧ MapAt s ms mkStr ptrV d.safe ∧ Vec s 103 3 cv d.chgs.length (chgsC d.chgs) ∧ ∀ c, inBlk cv c → inRoom cv c ∧ O c
  files : ∃ bv : Nat → Value, (∀ f, I f → s.heap.get f = some (.cells [bv f, .int .i64 ((F f).safe : Int)] 101 0 false (0, 0)) ∧ O f ∧ Vec s 5 1 (bv f) (F f).bytes.length (byteCells (F f).bytes) ∧ ∀ c, inBlk (bv f) c → O c ∧ ∃ l, s.heap.get c = some (.cells l 5 1 true (0, 0))) ∧ ∀ f g, I f → I g → ∀ c, inBlk (bv f) c → inBlk (bv g) c → f = g
  own : O b
  lt : ∀ c, O c → c < s.next
  inN : ∀ e ∈ d.names, I e.2
  inS : ∀ e ∈ d.safe, I e.2
  inC : ∀ c ∈ d.chgs, ∀ f, c.file = some f → I f
  few : d.chgs.length < open_
/-- the disk has moved; nothing else has -/
structure Mv (O O' : Nat → Prop) (s s' : St) : Prop where
  wf : s'.wf
  next : s.next ≤ s'.next
  old : ∀ c x, ¬ O c → s.heap.get c = some x → s'.heap.get c = some x
  new : ∀ c, O' c → O c ∨ s.next ≤ c
theorem Mv.refl {O : Nat → Prop} {s : St} (h : s.wf) : Mv O O s s := ⟨h, Nat.le_refl _, fun _ _ _ h => h, fun _ h => .inl h⟩
theorem Mv.trans {O O' O'' : Nat → Prop} {s s' s'' : St} (hlt : s.wf) (h : Mv O O' s s') (k : Mv O' O'' s' s'') : Mv O O'' s s'' :=
  ⟨k.wf, Nat.le_trans h.next k.next, fun c x h1 h2 => k.old c x (fun h3 => (h.new c h3).elim h1 fun h4 => by have := hlt c x h2; omega) (h.old c x h1 h2), fun c hc => (k.new c hc).elim (h.new c) fun h1 => .inr (Nat.le_trans h.next h1)⟩
theorem Mv.ofKeep {O : Nat → Prop} {s s' : St} (h : Keep s s') : Mv O O s s' := ⟨h.wf, h.next, fun c x _ hx => h.old c x hx, fun _ h => .inl h⟩
theorem Mv.keep {O O' : Nat → Prop} {s0 s s' : St} (h : Mv O O' s s') (k : Keep s0 s) (ho : ∀ c, O c → s0.next ≤ c) (hw : s0.wf) : Keep s0 s' :=
  ⟨h.wf, Nat.le_trans k.next h.next, fun c x hx => h.old c x (fun ho' => by have := ho c ho'; have := hw c x hx; omega) (k.old c x hx)⟩
/-- what others do leaves a disk -/
theorem DkAt.mono {s s' : St} {O : Nat → Prop} {b : Nat} {d : DD} {F : Fs} {I : Nat → Prop} (h : DkAt s O b d F I) (hk : ∀ c x, O c → s.heap.get c = some x → s'.heap.get c = some x) (hn : s.next ≤ s'.next) : DkAt s' O b d F I := by
  obtain ⟨mn, ms, cv, h1, h2, h3, h4, h5, h6, h7, h8⟩ := h.ex
  obtain ⟨bv, g1, g2⟩ := h.files
  refine ⟨⟨mn, ms, cv, hk _ _ h.own h1, h2, h3, h4, h5.mono fun x => hk _ x h3, h6.mono fun x => hk _ x h4, h7.mono fun c x hc => hk c x (h8 c hc).2, h8⟩, ⟨bv, fun f hf => ?_, g2⟩, h.own, fun c hc => Nat.lt_of_lt_of_le (h.lt c hc) hn, h.inN, h.inS, h.inC, h.few⟩
  obtain ⟨q1, q2, q3, q4⟩ := g1 f hf
  exact ⟨hk _ _ q2 q1, q2, q3.mono fun c x hc => hk c x (q4 c hc).1, fun c hc => ⟨(q4 c hc).1, (q4 c hc).2.elim fun l hl => ⟨l, hk _ _ (q4 c hc).1 hl⟩⟩⟩
theorem DkAt.keep {s s' : St} {O : Nat → Prop} {b : Nat} {d : DD} {F : Fs} {I : Nat → Prop} (h : DkAt s O b d F I) (hk : Keep s s') : DkAt s' O b d F I := h.mono (fun c x _ hx => hk.old c x hx) hk.next
/-- a file more -/
theorem DkAt.newFile {s : St} {O : Nat → Prop} {b : Nat} {d : DD} {F : Fs} {I : Nat → Prop} (h : DkAt s O b d F I) {f : Nat} (hf : s.heap.get f = some (.cells [.slice none 0 0, .int .i64 0] 101 0 false (0, 0))) (hO : ¬ O f) (hlt : f < s.next) :
    DkAt s (fun c => O c ∨ c = f) b d (F.put f ⟨[], 0⟩) (fun c => I c ∨ c = f) := by
  obtain ⟨mn, ms, cv, h1, h2, h3, h4, h5, h6, h7, h8⟩ := h.ex
  obtain ⟨bv, g1, g2⟩ := h.files
  have hI : ∀ g, I g → g ≠ f := fun g hg e => hO (e ▸ (g1 g hg).2.1)
  refine ⟨⟨mn, ms, cv, h1, h2, .inl h3, .inl h4, h5, h6, h7, fun c hc => ⟨(h8 c hc).1, .inl (h8 c hc).2⟩⟩, ⟨fun g => if g = f then .slice none 0 0 else bv g, fun g hg => ?_, fun g g' hg hg' c => ?_⟩, .inl h.own, fun c hc => hc.elim (h.lt c) fun e => e ▸ hlt, fun e he => .inl (h.inN e he), fun e he => .inl (h.inS e he), fun c hc g hg => .inl (h.inC c hc g hg), h.few⟩
  · by_cases e : g = f
    · subst e
      simp only [if_true, Fs.put]
      exact ⟨hf, .inr trivial, .nil, fun c ⟨o, n, k, e⟩ => by cases e⟩
    · simp only [if_neg e, Fs.put]
      obtain ⟨q1, q2, q3, q4⟩ := g1 g (hg.resolve_right e)
      exact ⟨q1, .inl q2, q3, fun c hc => ⟨.inl (q4 c hc).1, (q4 c hc).2⟩⟩
  · by_cases e : g = f
    · simp only [if_pos e]
      rintro ⟨o, n, k, e⟩
      cases e
    · by_cases e' : g' = f
      · simp only [if_pos e']
        rintro _ ⟨o, n, k, e⟩
        cases e
      · simp only [if_neg e, if_neg e']
        exact g2 g g' (hg.resolve_right e) (hg'.resolve_right e') c
theorem wf_put {s : St} (h : s.wf) {b : Nat} {x : AObj} (hb : s.heap.get b = some x) (y : AObj) : (⟨s.heap.set b y, s.next⟩ : St).wf := fun c z e => by
  rcases Tr.get_set e with ⟨rfl, _⟩ | ⟨_, e⟩
  · exact h _ _ hb
  · exact h c z e
theorem go_mem {l : Nms} {c : Chg} {e : Nm × Nat} (h : e ∈ c.go l) : e ∈ l ∨ ∃ f, c.file = some f ∧ e = (c.name, f) := by
  have h1 : ∀ l' : Nms, l' = (if c.gone = [] then l else adel l c.gone) → e ∈ l' → e ∈ l := fun l' hl he => by
    subst hl
    split at he
    · exact he
    · exact mem_adel he
  unfold Chg.go at h
  split at h
  · exact .inl (h1 _ rfl h)
  · rename_i f hf
    rcases mem_aput h with h | h
    · exact .inl (h1 _ rfl h)
    · exact .inr ⟨f, hf, h⟩
theorem chg_lit (c : Chg) : aSliceLit Tryz.prog 103 1 [(0, .agg ⟨chgC c⟩)] = .ok (.cells (chgC c) 103 0 false (0, 0), fun n => .slice (some ⟨n, 0, none⟩) 1 1) := by kernel_rfl
theorem chgC_one (c : Chg) : (chgC c).all oneB = true := by
  obtain ⟨n, f, g⟩ := c
  cases f <;> rfl
attribute [local go_sem] chg_lit List.set_cons_zero List.set_cons_succ
set_option maxRecDepth 20000 in
theorem changed_ev (hs : Sm 56 = none) (hdo : Sm 66 = none) {s : St} {O : Nat → Prop} {b : Nat} {d : DD} {F : Fs} {I : Nat → Prop} (hd : DkAt s O b d F I) (hwf : s.wf) (hc : d.chgs.length ≤ 1000000000) {c : Chg} (hf : ∀ f, c.file = some f → I f)
    (h : ∀ s' O', Mv O O' s s' → DkAt s' O' b { d with names := c.go d.names, chgs := d.chgs ++ [c] } F I → Q (.val (.int .i64 0) s')) :
    Ev Tryz.prog Sm (.inv (.fn (.func 56) #[]) [.pointer (some ⟨b, 0, none⟩), .agg ⟨chgC c⟩] s) Q := by
  refine Ev.func hs Tryz.func56 rfl (m := 21) rfl ?_
  simp only [Array.toList_empty, List.append_nil, ofList_cons, ofList_nil]
  have hd0 := hd
  obtain ⟨mn, ms, cv, h1, h2, h3, h4, h5, h6, h7, h8⟩ := hd.ex
  have hk1 := (Keep.refl hwf).new (.cells (chgC c) 103 0 false (0, 0))
  have hb1 := hk1.old _ _ h1
  have hc1 := get_same s.heap s.next (AObj.cells (chgC c) 103 0 false (0, 0))
  have hcut : cutN (chgC c) 0 3 = some (chgC c) := rfl
  (try first | refine EvO.nx ?_ | refine EvA.nx ?_); repeat' (first | refine Abs.go ?_ | with_reducible refine Abs.fork (fun hb => ?_) (fun hb => ?_))
  refine Abs.Ev.regionD (n := 0) (l := [.go 0, .go 1, .go 2, .go 3, .go 4, .go 5]) (by kernel_rfl) ?_
  (try first | refine EvO.nx ?_ | refine EvA.nx ?_); repeat' (first | refine Abs.goH (Abs.cc hb1 (hcut)) ?_ | with_reducible refine Abs.fork (fun hb => ?_) (fun hb => ?_))
  refine do_ev hdo hk1.wf (l := d.names) (h5.mono fun x hx => hk1.old _ _ hx) fun s2 w2 n2 m2 f2 => ⟨_, _, rfl, ?_⟩
  have n2' : s.next + 1 ≤ s2.next := n2
  have hbm : b ≠ mn := by
    rintro rfl
    obtain ⟨es, k, e, _⟩ := h5
    rw [h1] at e
    cases e
  have hml := h5.lt hwf
  have hb2 := f2 b _ hbm hb1
  have hc2 := f2 s.next _ (by omega) hc1
  have hall : ∀ x y, x ≠ mn → s.heap.get x = some y → s2.heap.get x = some y := fun x y hx hy => f2 x y hx (hk1.old _ _ hy)
  have hv2 : Vec s2 103 3 cv d.chgs.length (chgsC d.chgs) := h7.mono fun x y hx hy => hall x y (by
    rintro rfl
    obtain ⟨l, hl⟩ := h7.kind (h8 _ hx).1 (by unfold open_; omega)
    obtain ⟨es, k, e, _⟩ := h5
    rw [hl] at e
    cases e) hy
  have hbl := hd.lt b hd.own
  (try first | refine EvO.nx ?_ | refine EvA.nx ?_); repeat' (first | refine Abs.go ?_ | with_reducible refine Abs.fork (fun hb => ?_) (fun hb => ?_))
  refine Abs.Ev.regionD (n := 11) (l := [.go 0, .go 1, .go 2, .go 3, .go 4, .go 5, .new 6 6, .go 7, .go 8, .go 9, .go 10]) (by kernel_rfl) ?_
  (try first | refine EvO.nx ?_ | refine EvA.nx ?_); repeat' (first | refine Abs.goH (Abs.cc hb2 (Abs.cc hc2 (hcut))) ?_ | with_reducible refine Abs.fork (fun hb => ?_) (fun hb => ?_))
  have hwst : (⟨s2.heap.set (s2.next + 6) (.cells (chgC c) 103 0 false (0, 0)), s2.next + 11⟩ : St).wf := by
    have hwf := w2
    exact (show Keep s2 _ by ((repeat (refine Abs.Keep.set2 ?_ (by omega) (by omega) hwf)); exact Abs.Keep.grow (Keep.refl w2) (by omega))).wf
  have hv3 : Vec ⟨s2.heap.set (s2.next + 6) (.cells (chgC c) 103 0 false (0, 0)), s2.next + 11⟩ 103 3 cv d.chgs.length (chgsC d.chgs) := hv2.mono fun x y hx hy => by
    have := w2 x y hy
    show (s2.heap.set (s2.next + 6) _).get x = _
    rw [get_other _ _ _ _ (by omega)]
    exact hy
  refine EvO.appendV (m := 1) (nw := chgC c) hwst Tryz.underlying89 Ty.sz103 Ty.by103 Ty.ze103 rfl (by decide) hv3 (by unfold open_; omega) ((appSrc_slice Tryz.underlying89).trans (src_cells (get_same _ _ _) rfl)) rfl (chgC_one c) (by decide) (by omega) (by omega) fun v' st' k1 k2 k3 k4 k5 k6 => ?_
  obtain ⟨vb, vo, rfl, hvb⟩ := k2
  have k4' : s2.next + 11 ≤ st'.next := k4
  have hset : ∀ x y, s2.heap.get x = some y → (s2.heap.set (s2.next + 6) (.cells (chgC c) 103 0 false (0, 0))).get x = some y := fun x y hy => by
    have := w2 x y hy
    rw [get_other _ _ _ _ (by omega)]
    exact hy
  have hb3 : st'.heap.get b = some (.cells [.int .i64 d.quota, .map (some mn), .map (some ms), cv, .int .i64 d.appends, .int .i64 d.syncs] 96 0 false (0, 0)) := k5 b _ (hset _ _ hb2) (by simp)
  (try first | refine EvO.nx ?_ | refine EvA.nx ?_); repeat' (first | refine Abs.goH hb3 ?_ | with_reducible refine Abs.fork (fun hb => ?_) (fun hb => ?_))
  have hmap : ∃ es k, s.heap.get mn = some (.map es k) := by
    obtain ⟨es, k, e, _⟩ := h5
    exact ⟨es, k, e⟩
  obtain ⟨es0, ck0, hmn⟩ := hmap
  have nb : ∀ x l e sz o fz, s.heap.get x = some (.cells l e sz o fz) → e ≠ 96 → x ≠ b := fun x l e sz o fz hx he => by
    rintro rfl
    rw [h1] at hx
    cases hx
    exact he rfl
  have nm : ∀ x l e sz o fz, s.heap.get x = some (.cells l e sz o fz) → x ≠ mn := fun x l e sz o fz hx => by
    rintro rfl
    rw [hmn] at hx
    cases hx
  generalize hD : AObj.cells [.int .i64 d.quota, .map (some mn), .map (some ms), .slice (some ⟨vb, vo, none⟩) (d.chgs.length + 1) open_, .int .i64 d.appends, .int .i64 d.syncs] 96 0 false (0, 0) = D
  have hfin : ∀ x y, x ≠ b → x ≠ mn → s.heap.get x = some y → (∀ l, y ≠ .cells l 103 3 true (0, 0)) → (st'.heap.set b D).get x = some y := fun x y hb' hm' hx hk => by
    rw [get_other _ _ _ _ hb']
    exact k5 x y (hset x y (hall x y hm' hx)) hk
  refine h _ (fun x => O x ∨ x = vb) ⟨wf_put k3 hb3 D, by show s.next ≤ st'.next; omega, fun x y hx hy => ?_, fun x hx => hx.elim .inl fun e => hvb.elim (fun e' => .inr (by rw [e, e']; show s.next ≤ s2.next + 11; omega)) fun e' => .inl (e ▸ (h8 _ e'.blk).2)⟩ ⟨⟨mn, ms, .slice (some ⟨vb, vo, none⟩) (d.chgs.length + 1) open_, by rw [← hD]; exact get_same _ _ _, h2, .inl h3, .inl h4, ?_, ?_, ?_, ?_⟩, ?_, .inl hd.own, fun x hx => ?_, ?_, hd.inS, ?_, ?_⟩
  · show (st'.heap.set b D).get x = some y
    rw [get_other _ _ _ _ (by rintro rfl; exact hx hd.own)]
    exact k6 x y (hset x y (hall x y (by rintro rfl; exact hx h3) hy)) fun hr => hx (h8 x hr.blk).2
  · refine m2.mono fun x hx => ?_
    show (st'.heap.set b D).get mn = some x
    rw [get_other _ _ _ _ (Ne.symm hbm)]
    refine k5 mn x (hset mn x hx) ?_
    obtain ⟨es, k, e, _⟩ := m2
    rw [e] at hx
    cases hx
    simp
  · refine h6.mono fun x hx => ?_
    obtain ⟨es, k, e, _⟩ := h6
    have e' := e
    rw [hx] at e'
    cases e'
    exact hfin ms _ (by rintro rfl; rw [h1] at e; cases e) (Ne.symm h2) e (by simp)
  · rw [List.length_append, chgsC_append]
    show Vec _ _ _ _ (d.chgs.length + 1) (chgsC d.chgs ++ (chgC c ++ []))
    rw [List.append_nil]
    refine k1.mono fun x y hx hy => ?_
    show (st'.heap.set b D).get x = some y
    rw [get_other _ _ _ _ ?_]
    · exact hy
    · rintro rfl
      obtain ⟨o', n', c', e⟩ := hx
      cases e
      obtain ⟨l, hl⟩ := k1.kind ⟨_, _, rfl⟩ (by unfold open_; omega)
      rw [hb3] at hl
      cases hl
  · rintro x ⟨o', n', c', e⟩
    cases e
    exact ⟨⟨_, _, rfl⟩, .inr rfl⟩
  · obtain ⟨bv, g1, g2⟩ := hd.files
    refine ⟨bv, fun f hf => ?_, g2⟩
    obtain ⟨q1, q2, q3, q4⟩ := g1 f hf
    refine ⟨hfin f _ (nb f _ _ _ _ _ q1 (by decide)) (nm f _ _ _ _ _ q1) q1 (by simp), .inl q2, q3.mono fun x y hx hy => ?_, fun x hx => ?_⟩
    · obtain ⟨_, l, hl⟩ := q4 x hx
      rw [hl] at hy
      cases hy
      exact hfin x _ (nb x _ _ _ _ _ hl (by decide)) (nm x _ _ _ _ _ hl) hl (by simp)
    · obtain ⟨ho, l, hl⟩ := q4 x hx
      exact ⟨.inl ho, l, hfin x _ (nb x _ _ _ _ _ hl (by decide)) (nm x _ _ _ _ _ hl) hl (by simp)⟩
  · show x < st'.next
    rcases hx with hx | rfl
    · have := hd.lt x hx
      omega
    · exact k3 x _ (k1.kind ⟨_, _, rfl⟩ (by unfold open_; omega)).choose_spec
  · intro e he
    rcases go_mem he with he | ⟨f, h1, rfl⟩
    · exact hd.inN e he
    · exact hf f h1
  · intro c' hc' f hf'
    rcases List.mem_append.1 hc' with hc' | hc'
    · exact hd.inC c' hc' f hf'
    · rw [List.mem_singleton.1 hc'] at hf'
      exact hf f hf'
  · show (d.chgs ++ [c]).length < open_
    rw [List.length_append]
    show d.chgs.length + 1 < 18446744073709551616
    omega
end
end Go.Proofs.YtbakhdgiimjnkaaGreatDoor

/-
  simdisk: what New, Create, Remove and Rename do, at the evaluator.
-/
namespace Go.Proofs.YtbakhdgiimjnkaaGreatDoor
open Abs
set_option maxHeartbeats 16000000
set_option maxRecDepth 20000
set_option linter.unusedSimpArgs false
attribute [local irreducible] Abs.Ev Abs.EvF Abs.EvO Abs.EvA Abs.Seq Abs.Blk Abs.Body Abs.Scp Abs.EvG Abs.EvAg Abs.Nx
attribute [local go_sem] Tryz.underlying2 Ty.sz2 Ty.by2 Ty.ag2 Ty.ze2 Tryz.underlying3 Ty.sz3 Ty.by3 Ty.ag3 Ty.ze3 Tryz.underlying4 Ty.sz4 Ty.by4 Ty.ag4 Ty.ze4 Tryz.underlying5 Ty.sz5 Ty.by5 Ty.ag5 Ty.ze5 Tryz.underlying9 Ty.sz9 Ty.by9 Ty.ag9 Ty.ze9 Tryz.underlying24 Ty.sz24 Ty.by24 Ty.ag24 Ty.ze24 Tryz.underlying28 Ty.sz28 Ty.by28 Ty.ag28 Ty.ze28 Tryz.underlying29 Ty.sz29 Ty.by29 Ty.ag29 Ty.ze29 Tryz.underlying34 Ty.sz34 Ty.by34 Ty.ag34 Ty.ze34 Tryz.underlying46 Ty.sz46 Ty.by46 Ty.ag46 Ty.ze46 Tryz.underlying88 Ty.sz88 Ty.by88 Ty.ag88 Ty.ze88 Tryz.underlying89 Ty.sz89 Ty.by89 Ty.ag89 Ty.ze89 Tryz.underlying94 Ty.sz94 Ty.by94 Ty.ag94 Ty.ze94 Tryz.underlying96 Ty.sz96 Ty.by96 Ty.ag96 Ty.ze96 Tryz.underlying98 Ty.sz98 Ty.by98 Ty.ag98 Ty.ze98 Tryz.underlying101 Ty.sz101 Ty.by101 Ty.ag101 Ty.ze101 Tryz.underlying103 Ty.sz103 Ty.by103 Ty.ag103 Ty.ze103
section
variable {Sm : Summ} {Q : Ans → Prop}
/-- no summary stands for the directory's functions; one stands for strings.Trim -/
structure NoDir (Sm : Summ) : Prop where
  good : Sm 55 = none
  do_ : Sm 66 = none
  changed : Sm 56 = none
  new : Sm 19 = none
  create : Sm 20 = none
  remove : Sm 61 = none
  rename : Sm 70 = none
  trim : Sm 84 = some sumTrim
def DD.chg (d : DD) (c : Chg) : DD := { d with names := c.go d.names, chgs := d.chgs ++ [c] }
def DD.empty (quota : Int) : DD := ⟨quota, [], [], [], 0, 0⟩
theorem Mv.after {O O' : Nat → Prop} {s s1 s' : St} {f : Nat} (h : Mv (fun c => O c ∨ c = f) O' s1 s') (hwf : s.wf) (k : Keep s s1) (hf : s.next ≤ f) : Mv O O' s s' :=
  ⟨h.wf, Nat.le_trans k.next h.next, fun c x hc hx => h.old c x (fun e => e.elim hc fun e => by have := hwf c x hx; omega) (k.old c x hx), fun c hc => by
    rcases h.new c hc with (e | rfl) | e
    · exact .inl e
    · exact .inr hf
    · exact .inr (Nat.le_trans k.next e)⟩
theorem Mv.later {O O' : Nat → Prop} {s s1 s' : St} (h : Mv O O' s1 s') (k : Keep s s1) : Mv O O' s s' :=
  ⟨h.wf, Nat.le_trans k.next h.next, fun c x hc hx => h.old c x hc (k.old c x hx), fun c hc => (h.new c hc).imp id fun e => Nat.le_trans k.next e⟩
theorem keyS (nm : List UInt8) : keyOk Tryz.prog 9 (.string ⟨⟨nm⟩⟩) = true := keysS.ok nm
theorem file_build0 : aBuild Tryz.prog 101 [] = .ok (.agg ⟨[.slice none 0 0, .int .i64 0]⟩) := by kernel_rfl
theorem find_name {s : St} {m : Nat} {l : Nms} (h : MapAt s m mkStr ptrV l) (nm : List UInt8) : ∃ es ck, s.heap.get m = some (.map es ck) ∧
    ((∃ j f, aget l nm = some f ∧ ∀ h : Tr AObj, findR Tryz.prog h 9 (.string ⟨⟨nm⟩⟩) es 0 = .ok (some (j, .pointer (some ⟨f, 0, none⟩)))) ∨ (aget l nm = none ∧ ∀ h : Tr AObj, findR Tryz.prog h 9 (.string ⟨⟨nm⟩⟩) es 0 = .ok none)) := by
  obtain ⟨es, ck, h1, h2, _⟩ := h
  exact ⟨es, ck, h1, find_map keysS nm l 0 h2⟩
attribute [local go_sem] keyS file_build0
set_option maxRecDepth 20000 in
theorem create_ev (hn : NoDir Sm) {s : St} {O : Nat → Prop} {b : Nat} {d : DD} {F : Fs} {I : Nat → Prop} (hd : DkAt s O b d F I) (hwf : s.wf) (hc : d.chgs.length ≤ 1000000000) {nm : List UInt8} (hl : nm.length ≤ 1073741824)
    (h1 : ¬ GoodN nm → ∀ s', Keep s s' → Q (.val (.int .i64 1) s')) (h2 : GoodN nm → aget d.names nm ≠ none → ∀ s', Keep s s' → Q (.val (.int .i64 12) s'))
    (h3 : GoodN nm → aget d.names nm = none → ∀ f s' O', Mv O O' s s' → ¬ I f → DkAt s' O' b (d.chg ⟨nm, some f, []⟩) (F.put f ⟨[], 0⟩) (fun c => I c ∨ c = f) → Q (.val (.int .i64 0) s')) :
    Ev Tryz.prog Sm (.inv (.fn (.func 20) #[]) [.pointer (some ⟨b, 0, none⟩), .string ⟨⟨nm⟩⟩] s) Q := by
  refine Ev.func hn.create Tryz.func20 rfl (m := 21) rfl ?_
  simp only [Array.toList_empty, List.append_nil, ofList_cons, ofList_nil]
  (try first | refine EvO.nx ?_ | refine EvA.nx ?_); repeat' (first | refine Abs.go ?_ | with_reducible refine Abs.fork (fun hb => ?_) (fun hb => ?_))
  refine dgood_ev hn.good hn.trim hwf hl (fun hg s1 k1 => ⟨_, _, rfl, ?_⟩) (fun hg s1 k1 => ⟨_, _, rfl, ?_⟩)
  · have hd1 := hd.keep k1
    have hd1' := hd1
    obtain ⟨mn, ms, cv, e1, e2, e3, e4, e5, e6, e7, e8⟩ := hd1'.ex
    obtain ⟨es, ck, hm, hfind⟩ := find_name e5 nm
    rcases hfind with ⟨j, f, q1, q2⟩ | ⟨q1, q2⟩
    · (try first | refine EvO.nx ?_ | refine EvA.nx ?_); repeat' (first | refine Abs.goH (Abs.cc e1 (Abs.cc hm (q2))) ?_ | with_reducible refine Abs.fork (fun hb => ?_) (fun hb => ?_))
      exact h2 hg (by rw [q1]; simp) _ k1
    · (try first | refine EvO.nx ?_ | refine EvA.nx ?_); repeat' (first | refine Abs.goH (Abs.cc e1 (Abs.cc hm (q2))) ?_ | with_reducible refine Abs.fork (fun hb => ?_) (fun hb => ?_))
      have hk2 := (Keep.refl k1.wf).new (.cells [.slice none 0 0, .int .i64 0] 101 0 false (0, 0))
      have hOn : ¬ O s1.next := fun ho => absurd (hd1.lt _ ho) (Nat.lt_irrefl _)
      have hd2 := (hd1.keep hk2).newFile (get_same _ _ _) hOn (Nat.lt_succ_self _)
      have hI : ¬ I s1.next := fun hi => hOn ((hd1.files.choose_spec.1 _ hi).2.1)
      refine changed_ev hn.changed hn.do_ hd2 hk2.wf hc (c := ⟨nm, some s1.next, []⟩) (fun f e => by cases e; exact .inr rfl) fun s3 O3 m3 d3 => ⟨_, _, rfl, ?_⟩
      (try first | refine EvO.nx ?_ | refine EvA.nx ?_); repeat' (first | refine Abs.go ?_ | with_reducible refine Abs.fork (fun hb => ?_) (fun hb => ?_))
      exact h3 hg q1 s1.next _ O3 (m3.after hwf (k1.trans hk2) k1.next) hI d3
  · (try first | refine EvO.nx ?_ | refine EvA.nx ?_); repeat' (first | refine Abs.go ?_ | with_reducible refine Abs.fork (fun hb => ?_) (fun hb => ?_))
    exact h1 hg _ k1
theorem chg_build1 (nm : List UInt8) : aBuild Tryz.prog 103 [(2, .string ⟨⟨nm⟩⟩)] = .ok (.agg ⟨chgC ⟨[], none, nm⟩⟩) := by kernel_rfl
theorem chg_build2 (old to : List UInt8) (f : Nat) : aBuild Tryz.prog 103 [(0, .string ⟨⟨to⟩⟩), (1, .pointer (some ⟨f, 0, none⟩)), (2, .string ⟨⟨old⟩⟩)] = .ok (.agg ⟨chgC ⟨to, some f, old⟩⟩) := by kernel_rfl
attribute [local go_sem] chg_build1
set_option maxRecDepth 20000 in
theorem remove_ev (hn : NoDir Sm) {s : St} {O : Nat → Prop} {b : Nat} {d : DD} {F : Fs} {I : Nat → Prop} (hd : DkAt s O b d F I) (hwf : s.wf) (hc : d.chgs.length ≤ 1000000000) {nm : List UInt8}
    (h1 : aget d.names nm = none → Q (.val (.int .i64 4) s)) (h2 : aget d.names nm ≠ none → ∀ s' O', Mv O O' s s' → DkAt s' O' b (d.chg ⟨[], none, nm⟩) F I → Q (.val (.int .i64 0) s')) :
    Ev Tryz.prog Sm (.inv (.fn (.func 61) #[]) [.pointer (some ⟨b, 0, none⟩), .string ⟨⟨nm⟩⟩] s) Q := by
  refine Ev.func hn.remove Tryz.func61 rfl (m := 16) rfl ?_
  simp only [Array.toList_empty, List.append_nil, ofList_cons, ofList_nil]
  have hd' := hd
  obtain ⟨mn, ms, cv, e1, e2, e3, e4, e5, e6, e7, e8⟩ := hd'.ex
  obtain ⟨es, ck, hm, hfind⟩ := find_name e5 nm
  rcases hfind with ⟨j, f, q1, q2⟩ | ⟨q1, q2⟩
  · (try first | refine EvO.nx ?_ | refine EvA.nx ?_); repeat' (first | refine Abs.goH (Abs.cc e1 (Abs.cc hm (q2))) ?_ | with_reducible refine Abs.fork (fun hb => ?_) (fun hb => ?_))
    refine changed_ev hn.changed hn.do_ hd hwf hc (c := ⟨[], none, nm⟩) (fun f e => by cases e) fun s3 O3 m3 d3 => ⟨_, _, rfl, ?_⟩
    (try first | refine EvO.nx ?_ | refine EvA.nx ?_); repeat' (first | refine Abs.go ?_ | with_reducible refine Abs.fork (fun hb => ?_) (fun hb => ?_))
    exact h2 (by rw [q1]; simp) _ O3 m3 d3
  · (try first | refine EvO.nx ?_ | refine EvA.nx ?_); repeat' (first | refine Abs.goH (Abs.cc e1 (Abs.cc hm (q2))) ?_ | with_reducible refine Abs.fork (fun hb => ?_) (fun hb => ?_))
    exact h1 q1
attribute [local go_sem] chg_build2
end
end Go.Proofs.YtbakhdgiimjnkaaGreatDoor

/-
  simdisk: what Read, Append, Sync, SyncDir, List, Stat and Quota do, at the evaluator.
-/
namespace Go.Proofs.YtbakhdgiimjnkaaGreatDoor
open Abs
set_option maxHeartbeats 16000000
set_option maxRecDepth 20000
set_option linter.unusedSimpArgs false
attribute [local irreducible] Abs.Ev Abs.EvF Abs.EvO Abs.EvA Abs.Seq Abs.Blk Abs.Body Abs.Scp Abs.EvG Abs.EvAg Abs.Nx
attribute [local go_sem] Tryz.underlying2 Ty.sz2 Ty.by2 Ty.ag2 Ty.ze2 Tryz.underlying3 Ty.sz3 Ty.by3 Ty.ag3 Ty.ze3 Tryz.underlying4 Ty.sz4 Ty.by4 Ty.ag4 Ty.ze4 Tryz.underlying5 Ty.sz5 Ty.by5 Ty.ag5 Ty.ze5 Tryz.underlying9 Ty.sz9 Ty.by9 Ty.ag9 Ty.ze9 Tryz.underlying24 Ty.sz24 Ty.by24 Ty.ag24 Ty.ze24 Tryz.underlying28 Ty.sz28 Ty.by28 Ty.ag28 Ty.ze28 Tryz.underlying29 Ty.sz29 Ty.by29 Ty.ag29 Ty.ze29 Tryz.underlying34 Ty.sz34 Ty.by34 Ty.ag34 Ty.ze34 Tryz.underlying46 Ty.sz46 Ty.by46 Ty.ag46 Ty.ze46 Tryz.underlying88 Ty.sz88 Ty.by88 Ty.ag88 Ty.ze88 Tryz.underlying89 Ty.sz89 Ty.by89 Ty.ag89 Ty.ze89 Tryz.underlying94 Ty.sz94 Ty.by94 Ty.ag94 Ty.ze94 Tryz.underlying96 Ty.sz96 Ty.by96 Ty.ag96 Ty.ze96 Tryz.underlying98 Ty.sz98 Ty.by98 Ty.ag98 Ty.ze98 Tryz.underlying101 Ty.sz101 Ty.by101 Ty.ag101 Ty.ze101 Tryz.underlying103 Ty.sz103 Ty.by103 Ty.ag103 Ty.ze103
section
variable {Sm : Summ} {Q : Ans → Prop}
/-- a file of a disk turns, nothing else of it -/
theorem DkAt.refile {s s' : St} {O O' : Nat → Prop} {b : Nat} {d : DD} {F : Fs} {I : Nat → Prop} (h : DkAt s O b d F I) {f n : Nat} {bf bn v : Value} {B : List UInt8} (hf : I f) (e : s.heap.get f = some (.cells [bf, v] 101 0 false (0, 0)))
    (hk : ∀ x y, O x → x ≠ f → ¬ inBlk bf x → s.heap.get x = some y → s'.heap.get x = some y) (he : s'.heap.get f = some (.cells [bn, .int .i64 (n : Int)] 101 0 false (0, 0))) (hv : Vec s' 5 1 bn B.length (byteCells B))
    (hO : ∀ c, inBlk bn c → O' c ∧ ∃ l, s'.heap.get c = some (.cells l 5 1 true (0, 0))) (hdis : ∀ c, inBlk bn c → inBlk bf c ∨ ¬ O c) (hOO : ∀ c, O c → O' c) (hlt : ∀ c, O' c → c < s'.next) :
    DkAt s' O' b d (F.put f ⟨B, n⟩) I := by
  obtain ⟨mn, ms, cv, h1, h2, h3, h4, h5, h6, h7, h8⟩ := h.ex
  obtain ⟨bv, g1, g2⟩ := h.files
  have hbf : bv f = bf := by
    have := (g1 f hf).1
    rw [e] at this
    simp only [Option.some.injEq, AObj.cells.injEq, List.cons.injEq] at this
    exact this.1.1.symm
  have hu : ∀ x, inBlk bf x → ∃ l, s.heap.get x = some (.cells l 5 1 true (0, 0)) := fun x hx => ((g1 f hf).2.2.2 x (hbf ▸ hx)).2
  have keepO : ∀ x y, O x → s.heap.get x = some y → x ≠ f → (∀ l, y ≠ .cells l 5 1 true (0, 0)) → s'.heap.get x = some y := fun x y ho hx hne hy => hk x y ho hne (fun hb => by
    obtain ⟨l, hl⟩ := hu x hb
    rw [hx] at hl
    exact hy l (Option.some.inj hl)) hx
  have hmapk : ∀ m (l : Nms), MapAt s m mkStr ptrV l → O m → MapAt s' m mkStr ptrV l := fun m l hm ho => hm.mono fun x hx => by
    obtain ⟨es, k, e1, _⟩ := hm
    have e2 := e1
    rw [hx] at e2
    cases e2
    exact keepO m _ ho e1 (by rintro rfl; rw [e] at e1; cases e1) (by simp)
  refine ⟨⟨mn, ms, cv, keepO b _ h.own h1 (by rintro rfl; rw [e] at h1; cases h1) (by simp), h2, hOO _ h3, hOO _ h4, hmapk _ _ h5 h3, hmapk _ _ h6 h4, h7.mono fun x y hx hy => ?_, fun c hc => ⟨(h8 c hc).1, hOO _ (h8 c hc).2⟩⟩, ⟨fun g => if g = f then bn else bv g, fun g hg => ?_, fun g g' hg hg' c => ?_⟩, hOO _ h.own, hlt, h.inN, h.inS, h.inC, h.few⟩
  · obtain ⟨l, hl⟩ := h7.kind (h8 x hx).1 h.few
    have hl' := hl
    rw [hy] at hl'
    cases hl'
    exact keepO x _ (h8 x hx).2 hl (by rintro rfl; rw [e] at hl; cases hl) (by simp)
  · by_cases eg : g = f
    · subst eg
      simp only [if_true, Fs.put]
      exact ⟨he, hOO _ (g1 g hg).2.1, hv, hO⟩
    · simp only [if_neg eg, Fs.put]
      obtain ⟨q1, q2, q3, q4⟩ := g1 g hg
      have hby : ∀ c, inBlk (bv g) c → ∀ l, s.heap.get c = some (.cells l 5 1 true (0, 0)) → s'.heap.get c = some (.cells l 5 1 true (0, 0)) := fun c hc l hl => hk c _ (q4 c hc).1 (by rintro rfl; rw [e] at hl; cases hl) (fun hb => eg (g2 g f hg hf c hc (hbf.symm ▸ hb))) hl
      refine ⟨keepO g _ q2 q1 eg (by simp), hOO _ q2, q3.mono fun x y hx hy => ?_, fun c hc => ?_⟩
      · obtain ⟨_, l, hl⟩ := q4 x hx
        rw [hl] at hy
        cases hy
        exact hby x hx l hl
      · obtain ⟨ho, l, hl⟩ := q4 c hc
        exact ⟨hOO _ ho, l, hby c hc l hl⟩
  · have one : ∀ k, I k → k ≠ f → inBlk bn c → inBlk (bv k) c → False := fun k hk' hne hb hc => by
      rcases hdis c hb with h' | h'
      · exact hne (g2 k f hk' hf c hc (hbf.symm ▸ h'))
      · exact h' ((g1 k hk').2.2.2 c hc).1
    by_cases eg : g = f
    · by_cases eg' : g' = f
      · intro _ _
        rw [eg, eg']
      · simp only [if_pos eg, if_neg eg']
        exact fun a b' => (one g' hg' eg' a b').elim
    · by_cases eg' : g' = f
      · simp only [if_neg eg, if_pos eg']
        exact fun a b' => (one g hg eg b' a).elim
      · simp only [if_neg eg, if_neg eg']
        exact g2 g g' hg hg' c
/-- a disk's own cells turn, but for its names and changes -/
theorem DkAt.reset {s : St} {O : Nat → Prop} {b : Nat} {d : DD} {F : Fs} {I : Nat → Prop} (h : DkAt s O b d F I) {mn ms : Nat} {cv q a y : Value} (e : s.heap.get b = some (.cells [q, .map (some mn), .map (some ms), cv, a, y] 96 0 false (0, 0))) (q' a' y' : Int) :
    DkAt ⟨s.heap.set b (.cells [.int .i64 q', .map (some mn), .map (some ms), cv, .int .i64 a', .int .i64 y'] 96 0 false (0, 0)), s.next⟩ O b { d with quota := q', appends := a', syncs := y' } F I := by
  obtain ⟨mn', ms', cv', h1, h2, h3, h4, h5, h6, h7, h8⟩ := h.ex
  obtain ⟨bv, g1, g2⟩ := h.files
  rw [e] at h1
  cases h1
  have other : ∀ x z, x ≠ b → s.heap.get x = some z → (s.heap.set b (.cells [.int .i64 q', .map (some mn), .map (some ms), cv, .int .i64 a', .int .i64 y'] 96 0 false (0, 0))).get x = some z := fun x z hx hz => (get_other _ _ _ _ hx).trans hz
  have hmapk : ∀ m (l : Nms), MapAt s m mkStr ptrV l → m ≠ b := fun m l hm => by
    obtain ⟨es, k, e1, _⟩ := hm
    rintro rfl
    rw [e] at e1
    cases e1
  refine ⟨⟨mn, ms, cv, get_same _ _ _, h2, h3, h4, h5.mono fun x hx => other _ _ (hmapk _ _ h5) hx, h6.mono fun x hx => other _ _ (hmapk _ _ h6) hx, h7.mono fun x z hx hz => other _ _ (by
    obtain ⟨l, hl⟩ := h7.kind (h8 x hx).1 h.few
    rintro rfl
    rw [e] at hl
    cases hl) hz, h8⟩, ⟨bv, fun f hf => ?_, g2⟩, h.own, h.lt, h.inN, h.inS, h.inC, h.few⟩
  obtain ⟨q1, q2, q3, q4⟩ := g1 f hf
  have nb : ∀ c, inBlk (bv f) c → c ≠ b := fun c hc => by
    obtain ⟨_, l, hl⟩ := q4 c hc
    rintro rfl
    rw [e] at hl
    cases hl
  exact ⟨other _ _ (by rintro rfl; rw [e] at q1; simp at q1) q1, q2, q3.mono fun x z hx hz => other _ _ (nb x hx) hz, fun c hc => ⟨(q4 c hc).1, (q4 c hc).2.elim fun l hl => ⟨l, other _ _ (nb c hc) hl⟩⟩⟩
/-- no summary stands for a file's functions -/
structure NoFile (Sm : Summ) : Prop where
  read : Sm 39 = none
  sync : Sm 69 = none
  append : Sm 40 = none
  syncDir : Sm 62 = none
  list : Sm 26 = none
  quota : Sm 29 = none
  clone : Sm 80 = none
  add : Sm 81 = none
  load : Sm 72 = none
  addX : Sm 104 = none
  loadX : Sm 101 = none
set_option maxRecDepth 20000 in
theorem dread_ev (hn : NoFile Sm) {s : St} {O : Nat → Prop} {b : Nat} {d : DD} {F : Fs} {I : Nat → Prop} (hd : DkAt s O b d F I) (hwf : s.wf) {nm : List UInt8} (hsm : ∀ f, I f → (F f).bytes.length ≤ 35184372088832)
    (h1 : aget d.names nm = none → Q (.val (.tuple #[.slice none 0 0, .int .i64 4]) s)) (h2 : ∀ f, aget d.names nm = some f → ∀ v s', Keep s s' → TxtB s' s.next v (F f).bytes → Q (.val (.tuple #[v, .int .i64 0]) s')) :
    Ev Tryz.prog Sm (.inv (.fn (.func 39) #[]) [.pointer (some ⟨b, 0, none⟩), .string ⟨⟨nm⟩⟩] s) Q := by
  refine Ev.func hn.read Tryz.func39 rfl (m := 20) rfl ?_
  simp only [Array.toList_empty, List.append_nil, ofList_cons, ofList_nil]
  have hd' := hd
  obtain ⟨mn, ms, cv, e1, e2, e3, e4, e5, e6, e7, e8⟩ := hd'.ex
  obtain ⟨es, ck, hm, hfind⟩ := find_name e5 nm
  rcases hfind with ⟨j, f, q1, q2⟩ | ⟨q1, q2⟩
  · have hI := hd.inN _ (aget_mem q1)
    obtain ⟨bv, g1, g2⟩ := hd.files
    obtain ⟨p1, p2, p3, p4⟩ := g1 f hI
    (try first | refine EvO.nx ?_ | refine EvA.nx ?_); repeat' (first | refine Abs.goH (Abs.cc e1 (Abs.cc hm (Abs.cc q2 (p1)))) ?_ | with_reducible refine Abs.fork (fun hb => ?_) (fun hb => ?_))
    refine clone_ev hn.clone hwf (v := bv f) (l := (F f).bytes) ⟨p3.src.2, p3.src.1⟩ (by have := hsm f hI; omega) fun v' s' k' t' => ⟨_, _, rfl, ?_⟩
    (try first | refine EvO.nx ?_ | refine EvA.nx ?_); repeat' (first | refine Abs.go ?_ | with_reducible refine Abs.fork (fun hb => ?_) (fun hb => ?_))
    exact h2 f q1 _ _ k' t'
  · (try first | refine EvO.nx ?_ | refine EvA.nx ?_); repeat' (first | refine Abs.goH (Abs.cc e1 (Abs.cc hm (q2))) ?_ | with_reducible refine Abs.fork (fun hb => ?_) (fun hb => ?_))
    exact h1 q1
theorem add_ev (hn : NoFile Sm) {s : St} {b o : Nat} {l : List Value} {e : TypeId} {sz : Nat} {opn : Bool} {x y : Int} (hb : s.heap.get b = some (.cells l e sz opn (0, 0))) (hl : l[o]? = some (.int .i64 x))
    (h : Q (.val (.int .i64 (IntKind.i64.wrap (x + y))) ⟨s.heap.set b (.cells (l.set o (.int .i64 (IntKind.i64.wrap (x + y)))) e sz opn (0, 0)), s.next⟩)) :
    Ev Tryz.prog Sm (.inv (.fn (.func 81) #[]) [.pointer (some ⟨b, o, none⟩), .int .i64 y] s) Q := by
  refine Ev.func hn.add Tryz.func81 rfl (m := 10) rfl ?_
  simp only [Array.toList_empty, List.append_nil, ofList_cons, ofList_nil]
  have ho : o < l.length := (List.getElem?_eq_some_iff.1 hl).1
  have hx : Abs.ext Tryz.prog s (Tryz.f104).resultTypes (.add .i64) [.pointer (some ⟨b, o, none⟩), .int .i64 y] (fun v s => Rs.ok (Ans.val v s)) = .ok (.val (.int .i64 (IntKind.i64.wrap (x + y))) ⟨s.heap.set b (.cells (l.set o (.int .i64 (IntKind.i64.wrap (x + y)))) e sz opn (0, 0)), s.next⟩) := by
    show (match s.heap.get b with
      | some (.cells l _ _ _ _) => (Rs.of 94 l[o]?).bind fun
        | .int kd' n => ifb (decide (IntKind.i64 = kd')) (intK (IntKind.i64.wrap (n + y)) fun m => turn s b o [.int .i64 m] fun st => Rs.ok (Ans.val (.int .i64 m) st)) (.no 94 "")
        | _ => .no 94 ""
      | _ => .no 94 "") = _
    rw [hb]
    show (Rs.of 94 l[o]?).bind _ = _
    rw [hl]
    show ifb (decide (IntKind.i64 = IntKind.i64)) (intK (IntKind.i64.wrap (x + y)) fun m => turn s b o [.int .i64 m] fun st => Rs.ok (Ans.val (.int .i64 m) st)) (.no 94 "") = _
    rw [show decide (IntKind.i64 = IntKind.i64) = true from rfl, intK_eq]
    show turn s b o [.int .i64 (IntKind.i64.wrap (x + y))] _ = _
    rw [turn_eq hb rfl (by show o + 1 ≤ l.length; omega)]
    show Rs.ok (Ans.val _ ⟨s.heap.set b (.cells (l.take o ++ ([_] ++ l.drop (o + 1))) e sz opn (0, 0)), s.next⟩) = _
    rw [over_set _ _ _ ho]
  (try first | refine EvO.nx ?_ | refine EvA.nx ?_); repeat' (first | refine Abs.go ?_ | with_reducible refine Abs.fork (fun hb => ?_) (fun hb => ?_))
  refine ev_ext hn.addX Tryz.func104 rfl (by kernel_rfl) rfl hx ⟨_, _, rfl, ?_⟩
  (try first | refine EvO.nx ?_ | refine EvA.nx ?_); repeat' (first | refine Abs.go ?_ | with_reducible refine Abs.fork (fun hb => ?_) (fun hb => ?_))
  exact h
set_option maxRecDepth 20000 in
theorem dsync_ev (hn : NoFile Sm) {s : St} {O : Nat → Prop} {b : Nat} {d : DD} {F : Fs} {I : Nat → Prop} (hd : DkAt s O b d F I) (hwf : s.wf) {nm : List UInt8}
    (h1 : aget d.names nm = none → Q (.val (.int .i64 4) s)) (h2 : ∀ f, aget d.names nm = some f → ∀ s' y, Mv O O s s' → DkAt s' O b { d with syncs := y } (F.put f ⟨(F f).bytes, (F f).bytes.length⟩) I → Q (.val (.int .i64 0) s')) :
    Ev Tryz.prog Sm (.inv (.fn (.func 69) #[]) [.pointer (some ⟨b, 0, none⟩), .string ⟨⟨nm⟩⟩] s) Q := by
  refine Ev.func hn.sync Tryz.func69 rfl (m := 26) rfl ?_
  simp only [Array.toList_empty, List.append_nil, ofList_cons, ofList_nil]
  have hd' := hd
  obtain ⟨mn, ms, cv, e1, e2, e3, e4, e5, e6, e7, e8⟩ := hd'.ex
  obtain ⟨es, ck, hm, hfind⟩ := find_name e5 nm
  rcases hfind with ⟨j, f, q1, q2⟩ | ⟨q1, q2⟩
  · have hI := hd.inN _ (aget_mem q1)
    obtain ⟨bv, g1, g2⟩ := hd.files
    obtain ⟨p1, p2, p3, p4⟩ := g1 f hI
    obtain ⟨va, vc, hbv⟩ := p3.src.2
    rw [hbv] at p1 p3 p4
    have hbf : f ≠ b := by
      rintro rfl
      rw [e1] at p1
      simp at p1
    have hnew : ∀ c, inBlk (.slice va (F f).bytes.length vc) c → c ≠ f := fun c hc => by
      obtain ⟨_, l, hl⟩ := p4 c hc
      rintro rfl
      rw [p1] at hl
      simp at hl
    have hd1 : DkAt ⟨s.heap.set f (.cells [.slice va (F f).bytes.length vc, .int .i64 ((F f).bytes.length : Int)] 101 0 false (0, 0)), s.next⟩ O b d (F.put f ⟨(F f).bytes, (F f).bytes.length⟩) I :=
      hd.refile (s' := ⟨s.heap.set f (.cells [.slice va (F f).bytes.length vc, .int .i64 ((F f).bytes.length : Int)] 101 0 false (0, 0)), s.next⟩) hI p1 (fun x y _ hx _ hy => (get_other _ _ _ _ hx).trans hy) (get_same _ _ _) (p3.mono fun x y hx hy => (get_other _ _ _ _ (hnew x hx)).trans hy) (fun c hc => ⟨(p4 c hc).1, (p4 c hc).2.elim fun l hl => ⟨l, (get_other _ _ _ _ (hnew c hc)).trans hl⟩⟩) (fun c hc => .inl hc) (fun c hc => hc) hd.lt
    have e1' : (s.heap.set f (.cells [.slice va (F f).bytes.length vc, .int .i64 ((F f).bytes.length : Int)] 101 0 false (0, 0))).get b = some (.cells [.int .i64 d.quota, .map (some mn), .map (some ms), cv, .int .i64 d.appends, .int .i64 d.syncs] 96 0 false (0, 0)) := (get_other _ _ _ _ (Ne.symm hbf)).trans e1
    (try first | refine EvO.nx ?_ | refine EvA.nx ?_); repeat' (first | refine Abs.goH (Abs.cc e1 (Abs.cc hm (Abs.cc q2 (p1)))) ?_ | with_reducible refine Abs.fork (fun hb => ?_) (fun hb => ?_))
    refine add_ev hn e1' rfl ⟨_, _, rfl, ?_⟩
    (try first | refine EvO.nx ?_ | refine EvA.nx ?_); repeat' (first | refine Abs.go ?_ | with_reducible refine Abs.fork (fun hb => ?_) (fun hb => ?_))
    have hd2 := hd1.reset e1' d.quota d.appends (IntKind.i64.wrap (d.syncs + 1))
    refine h2 f q1 _ (IntKind.i64.wrap (d.syncs + 1)) ⟨?_, Nat.le_refl _, fun c x hc hx => ?_, fun c hc => .inl hc⟩ hd2
    · exact wf_put (wf_put hwf p1 _) e1' _
    · exact (get_other _ _ _ _ (by rintro rfl; exact hc hd.own)).trans ((get_other _ _ _ _ (by rintro rfl; exact hc p2)).trans hx)
  · (try first | refine EvO.nx ?_ | refine EvA.nx ?_); repeat' (first | refine Abs.goH (Abs.cc e1 (Abs.cc hm (q2))) ?_ | with_reducible refine Abs.fork (fun hb => ?_) (fun hb => ?_))
    exact h1 q1
end
end Go.Proofs.YtbakhdgiimjnkaaGreatDoor

/-
  simdisk: what the summaries of total and of the sorted names say of a disk; Append and List, at the evaluator.
-/
namespace Go.Proofs.YtbakhdgiimjnkaaGreatDoor
open Abs
set_option maxHeartbeats 16000000
set_option maxRecDepth 20000
set_option linter.unusedSimpArgs false
attribute [local irreducible] Abs.Ev Abs.EvF Abs.EvO Abs.EvA Abs.Seq Abs.Blk Abs.Body Abs.Scp Abs.EvG Abs.EvAg Abs.Nx
attribute [local go_sem] Tryz.underlying2 Ty.sz2 Ty.by2 Ty.ag2 Ty.ze2 Tryz.underlying3 Ty.sz3 Ty.by3 Ty.ag3 Ty.ze3 Tryz.underlying4 Ty.sz4 Ty.by4 Ty.ag4 Ty.ze4 Tryz.underlying5 Ty.sz5 Ty.by5 Ty.ag5 Ty.ze5 Tryz.underlying9 Ty.sz9 Ty.by9 Ty.ag9 Ty.ze9 Tryz.underlying24 Ty.sz24 Ty.by24 Ty.ag24 Ty.ze24 Tryz.underlying28 Ty.sz28 Ty.by28 Ty.ag28 Ty.ze28 Tryz.underlying29 Ty.sz29 Ty.by29 Ty.ag29 Ty.ze29 Tryz.underlying34 Ty.sz34 Ty.by34 Ty.ag34 Ty.ze34 Tryz.underlying46 Ty.sz46 Ty.by46 Ty.ag46 Ty.ze46 Tryz.underlying88 Ty.sz88 Ty.by88 Ty.ag88 Ty.ze88 Tryz.underlying89 Ty.sz89 Ty.by89 Ty.ag89 Ty.ze89 Tryz.underlying94 Ty.sz94 Ty.by94 Ty.ag94 Ty.ze94 Tryz.underlying96 Ty.sz96 Ty.by96 Ty.ag96 Ty.ze96 Tryz.underlying98 Ty.sz98 Ty.by98 Ty.ag98 Ty.ze98 Tryz.underlying101 Ty.sz101 Ty.by101 Ty.ag101 Ty.ze101 Tryz.underlying103 Ty.sz103 Ty.by103 Ty.ag103 Ty.ze103
section
variable {Sm : Summ} {Q : Ans → Prop}
theorem bornB_of {c : Nat} : ∀ {es : List MapEntry} {seen : List Nat}, BornOk c es → (∀ e ∈ es, e.born ∉ seen) → bornB c es seen = true
  | [], _, _, _ => rfl
  | e :: es, seen, h, hs => by
    obtain ⟨h1, h2, h3⟩ := BornOk.cons.1 h
    show ifb (Nat.blt e.born c) (ifb (seen.any fun x => Nat.beq x e.born) false (bornB c es (e.born :: seen))) false = true
    have e1 : Nat.blt e.born c = true := by simpa using h1
    have e2 : (seen.any fun x => Nat.beq x e.born) = false := by
      rw [List.any_eq_false]
      intro x hx hb
      have := Nat.eq_of_beq_eq_true hb
      subst this
      exact hs e (by simp) hx
    rw [e1, e2]
    show bornB c es (e.born :: seen) = true
    refine bornB_of h3 fun x hx hm => ?_
    rcases List.mem_cons.1 hm with h' | h'
    · exact h2 (h' ▸ List.mem_map_of_mem (f := (·.born)) hx)
    · exact hs x (by simp [hx]) h'
theorem memB_of {x : List UInt8} : ∀ {l : List (List UInt8)}, memB x l = true → x ∈ l
  | [], h => by cases h
  | y :: l, h => by
    have h' : ifb (bEq x y) true (memB x l) = true := h
    rw [bEq_eq, ifb_eq] at h'
    by_cases e : x = y
    · subst e; simp
    · rw [if_neg (by simpa using e)] at h'
      exact List.mem_cons_of_mem _ (memB_of h')
theorem nodupB_of : ∀ {l : List (List UInt8)}, l.Nodup → nodupB l = true
  | [], _ => rfl
  | x :: l, h => by
    obtain ⟨h1, h2⟩ := List.nodup_cons.1 h
    show ifb (memB x l) false (nodupB l) = true
    rw [show memB x l = false from by cases e : memB x l with | false => rfl | true => exact absurd (memB_of e) h1]
    exact nodupB_of h2
theorem keyStrs_of : ∀ {l : Nms} {es : List MapEntry}, EntsOf mkStr ptrV es l → keyStrs es = some (akeys l)
  | [], es, h => by obtain rfl := h.empty; rfl
  | p :: l, es, h => by
    cases es with
    | nil => cases h
    | cons e es =>
      obtain ⟨p', l', h0, h1, _, h3⟩ := h.cons
      cases h0
      show keyStr1 e.key (keyStrs es) = _
      rw [h1, keyStrs_of h3]
      rfl
theorem fileSum_of {hp : Tr AObj} {F : Fs} : ∀ {l : Nms} {es : List MapEntry}, EntsOf mkStr ptrV es l → (∀ e ∈ l, fileLen hp (ptrV e.2) = some (F e.2).bytes.length) → fileSum hp es = some (l.map fun e => (F e.2).bytes.length).sum
  | [], es, h, _ => by obtain rfl := h.empty; rfl
  | p :: l, es, h, hf => by
    cases es with
    | nil => cases h
    | cons e es =>
      obtain ⟨p', l', h0, _, h2, h3⟩ := h.cons
      cases h0
      have ih := fileSum_of h3 fun e he => hf e (by simp [he])
      show (Option.rec none (fun n => Option.rec none (fun m => natK (Nat.add n m) some) (fileSum hp es)) (fileLen hp e.val) : Option Nat) = _
      rw [h2, hf p (by simp), ih]
      show natK _ some = _
      rw [natK_eq]
      rfl
theorem DkAt.fileLen {s : St} {O : Nat → Prop} {b : Nat} {d : DD} {F : Fs} {I : Nat → Prop} (hd : DkAt s O b d F I) {f : Nat} (hf : I f) : fileLen s.heap (ptrV f) = some (F f).bytes.length := by
  obtain ⟨bv, g1, _⟩ := hd.files
  obtain ⟨p1, _, p3, _⟩ := g1 f hf
  obtain ⟨va, vc, hbv⟩ := p3.src.2
  show (match s.heap.get f with
    | some (.cells l _ _ _ _) => (match nth l 0 with
      | some (.slice _ n _) => some n
      | _ => none)
    | _ => none) = _
  rw [p1, hbv]
  rfl
/-- what is told of the files' bytes -/
theorem total_of {s : St} {O : Nat → Prop} {b : Nat} {d : DD} {F : Fs} {I : Nat → Prop} (hd : DkAt s O b d F I) (hnd : (akeys d.names).Nodup) (ht : d.total F ≤ 1073741824) : sumTotal [.pointer (some ⟨b, 0, none⟩)] s = .ok (.int .i64 ((d.total F : Nat) : Int), s) := by
  obtain ⟨mn, ms, cv, e1, e2, e3, e4, ⟨es, ck, m1, m2, m3⟩, _⟩ := hd.ex
  show (match s.heap.get b with
    | some (.cells l _ _ _ _) => (match nth l 1 with
      | some (.map (some r)) => sumTotal2 s r
      | _ => .no 143 "")
    | _ => .no 143 "") = _
  rw [e1]
  show sumTotal2 s mn = _
  unfold sumTotal2
  rw [m1]
  show ifb (bornB ck es []) ((Rs.of 143 (keyStrs es)).bind fun ks => ifb (nodupB ks) ((Rs.of 143 (fileSum s.heap es)).bind fun n => ifb (Nat.ble n 1073741824) (Rs.ok (Value.int .i64 (Int.ofNat n), s)) (.no 143 "")) (.no 143 "")) (.no 143 "") = _
  rw [bornB_of m3 (fun _ _ => by simp), keyStrs_of m2]
  show ifb (nodupB (akeys d.names)) ((Rs.of 143 (fileSum s.heap es)).bind fun n => ifb (Nat.ble n 1073741824) (Rs.ok (Value.int .i64 (Int.ofNat n), s)) (.no 143 "")) (.no 143 "") = _
  rw [nodupB_of hnd, fileSum_of (F := F) m2 fun e he => hd.fileLen (hd.inN e he)]
  show ifb (Nat.ble (d.total F) 1073741824) (Rs.ok (Value.int .i64 (Int.ofNat (d.total F)), s)) (.no 143 "") = _
  rw [show Nat.ble (d.total F) 1073741824 = true by simpa using ht]
  rfl
theorem shortB_of : ∀ {l : List (List UInt8)}, (∀ x ∈ l, x.length ≤ 1048576) → shortB l = true
  | [], _ => rfl
  | x :: l, h => by
    show ifb (Nat.ble (lenN x) 1048576) (shortB l) false = true
    rw [lenN_eq, show Nat.ble x.length 1048576 = true by simpa using h x (by simp)]
    exact shortB_of fun y hy => h y (by simp [hy])
theorem keysR_of : ∀ {l : Nms} {es : List MapEntry}, EntsOf mkStr ptrV es l → mapR (fun x => strOfV x.key) es = .ok (akeys l)
  | [], es, h => by obtain rfl := h.empty; rfl
  | p :: l, es, h => by
    cases es with
    | nil => cases h
    | cons e es =>
      obtain ⟨p', l', h0, h1, _, h3⟩ := h.cons
      cases h0
      show (strOfV e.key).bind (fun b => (mapR (fun x => strOfV x.key) es).bind fun bs => .ok (b :: bs)) = _
      rw [h1, keysR_of h3]
      rfl
set_option maxRecDepth 20000 in
theorem dappend_ev (hn : NoFile Sm) (ht : Sm 71 = some sumTotal) {s : St} {O : Nat → Prop} {b : Nat} {d : DD} {F : Fs} {I : Nat → Prop} (hd : DkAt s O b d F I) (hwf : s.wf) (hnd : (akeys d.names).Nodup) (htt : d.total F ≤ 1073741824) (hq : -9000000000000000000 ≤ d.quota ∧ d.quota ≤ 9223372036854775807) {nm : List UInt8} {v : Value} {l : List UInt8} (hv : BytesB s v l) (hl : l.length ≤ 35184372088832) (hsm : ∀ f, I f → (F f).bytes.length ≤ 35184372088832) (hvO : ∀ c, inBlk v c → ¬ O c)
    (h1 : aget d.names nm = none → Q (.val (.int .i64 4) s)) (h2 : aget d.names nm ≠ none → d.quota - (d.total F : Int) < (l.length : Int) → Q (.val (.int .i64 5) s))
    (h3 : ∀ f, aget d.names nm = some f → (l.length : Int) ≤ d.quota - (d.total F : Int) → ∀ s' O' y, Mv O O' s s' → DkAt s' O' b { d with appends := y } (F.put f ⟨(F f).bytes ++ l, (F f).safe⟩) I → Q (.val (.int .i64 0) s')) :
    Ev Tryz.prog Sm (.inv (.fn (.func 40) #[]) [.pointer (some ⟨b, 0, none⟩), .string ⟨⟨nm⟩⟩, v] s) Q := by
  refine Ev.func hn.append Tryz.func40 rfl (m := 41) rfl ?_
  simp only [Array.toList_empty, List.append_nil, ofList_cons, ofList_nil]
  have hd' := hd
  obtain ⟨mn, ms, cv, e1, e2, e3, e4, e5, e6, e7, e8⟩ := hd'.ex
  obtain ⟨es, ck, hm, hfind⟩ := find_name e5 nm
  obtain ⟨⟨va, vc, rfl⟩, hsrc⟩ := id hv
  rcases hfind with ⟨j, f, q1, q2⟩ | ⟨q1, q2⟩
  · have hI := hd.inN _ (aget_mem q1)
    (try first | refine EvO.nx ?_ | refine EvA.nx ?_); repeat' (first | refine Abs.goH (Abs.cc e1 (Abs.cc hm (q2))) ?_ | with_reducible refine Abs.fork (fun hb => ?_) (fun hb => ?_))
    refine Abs.Ev.regionD (n := 0) (l := [.go 0, .go 1, .go 2, .go 3, .go 4, .go 5, .go 6, .go 7, .again 5, .go 8, .go 9, .go 10]) (by kernel_rfl) ?_
    (try first | refine EvO.nx ?_ | refine EvA.nx ?_); repeat' (first | refine Abs.goH e1 ?_ | with_reducible refine Abs.fork (fun hb => ?_) (fun hb => ?_))
    refine Ev.summ ht (total_of hd hnd htt) ⟨_, _, rfl, ?_⟩
    (try first | refine EvO.nx ?_ | refine EvA.nx ?_); repeat' (first | refine Abs.goH e1 ?_ | with_reducible refine Abs.fork (fun hb => ?_) (fun hb => ?_))
    · exact h2 (by rw [q1]; simp) (by omega)
    · obtain ⟨bv, g1, g2⟩ := hd.files
      obtain ⟨p1, p2, p3, p4⟩ := g1 f hI
      have hsf := hsm f hI
      have hbf : f ≠ b := by
        rintro rfl
        rw [e1] at p1
        simp at p1
      generalize hbv : bv f = bf at *
      by_cases hl0 : l = []
      · subst hl0
        obtain ⟨wa, wc, rfl⟩ := p3.src.2
        (try first | refine EvO.nx ?_ | refine EvA.nx ?_); repeat' (first | refine Abs.goH p1 ?_ | with_reducible refine Abs.fork (fun hb => ?_) (fun hb => ?_))
        refine EvO.append0B ⟨_, _, rfl⟩ ((appSrc_slice Tryz.underlying28).trans hsrc) (by omega) ?_
        have e1' : (s.heap.set f (.cells [.slice wa (F f).bytes.length wc, .int .i64 ((F f).safe : Int)] 101 0 false (0, 0))).get b = some (.cells [.int .i64 d.quota, .map (some mn), .map (some ms), cv, .int .i64 d.appends, .int .i64 d.syncs] 96 0 false (0, 0)) := (get_other _ _ _ _ (Ne.symm hbf)).trans e1
        have hne : ∀ c, inBlk (.slice wa (F f).bytes.length wc) c → c ≠ f := fun c hc => by
          obtain ⟨_, z, hz⟩ := p4 c hc
          rintro rfl
          rw [p1] at hz
          simp at hz
        have hd1 := hd.refile (s' := ⟨s.heap.set f (.cells [.slice wa (F f).bytes.length wc, .int .i64 ((F f).safe : Int)] 101 0 false (0, 0)), s.next⟩) (B := (F f).bytes ++ []) hI p1 (fun x y _ hx _ hy => (get_other _ _ _ _ hx).trans hy) (get_same _ _ _) (by rw [List.append_nil]; exact p3.mono fun x y hx hy => (get_other _ _ _ _ (hne x hx)).trans hy) (fun c hc => ⟨(p4 c hc).1, (p4 c hc).2.elim fun z hz => ⟨z, (get_other _ _ _ _ (hne c hc)).trans hz⟩⟩) (fun c hc => .inl hc) (fun c hc => hc) hd.lt
        (try first | refine EvO.nx ?_ | refine EvA.nx ?_); repeat' (first | refine Abs.goH p1 ?_ | with_reducible refine Abs.fork (fun hb => ?_) (fun hb => ?_))
        refine add_ev hn e1' rfl ⟨_, _, rfl, ?_⟩
        (try first | refine EvO.nx ?_ | refine EvA.nx ?_); repeat' (first | refine Abs.go ?_ | with_reducible refine Abs.fork (fun hb => ?_) (fun hb => ?_))
        refine h3 f q1 (by omega) _ O _ ⟨wf_put (wf_put hwf p1 _) e1' _, Nat.le_refl _, fun c x hc hx => ?_, fun c hc => .inl hc⟩ (hd1.reset e1' d.quota (IntKind.i64.wrap (d.appends + 1)) d.syncs)
        exact (get_other _ _ _ _ (by rintro rfl; exact hc hd.own)).trans ((get_other _ _ _ _ (by rintro rfl; exact hc p2)).trans hx)
      · (try first | refine EvO.nx ?_ | refine EvA.nx ?_); repeat' (first | refine Abs.goH p1 ?_ | with_reducible refine Abs.fork (fun hb => ?_) (fun hb => ?_))
        have hl1 : 0 < l.length := by cases l with | nil => exact absurd rfl hl0 | cons _ _ => simp
        refine EvO.appendV (m := l.length) (nw := byteCells l) hwf Tryz.underlying28 Ty.sz5 Ty.by5 Ty.ze5 rfl (by decide) p3 (by unfold open_; omega) ((appSrc_slice Tryz.underlying28).trans hsrc) (by rw [byteCells_len, Nat.mul_one]) (byteCells_one l) hl1 (by omega) (by omega) fun v' st' k1 k2 k3 k4 k5 k6 => ?_
        obtain ⟨vb, vo, rfl, hvb⟩ := k2
        have p1' : st'.heap.get f = some (.cells [bf, .int .i64 ((F f).safe : Int)] 101 0 false (0, 0)) := k5 f _ p1 (by simp)
        have e1s : st'.heap.get b = some (.cells [.int .i64 d.quota, .map (some mn), .map (some ms), cv, .int .i64 d.appends, .int .i64 d.syncs] 96 0 false (0, 0)) := k5 b _ e1 (by simp)
        obtain ⟨z, hz⟩ := k1.kind ⟨_, _, rfl⟩ (by unfold open_; omega)
        have hvf : vb ≠ f := by
          rintro rfl
          rw [p1'] at hz
          simp at hz
        have e1' : (st'.heap.set f (.cells [.slice (some ⟨vb, vo, none⟩) ((F f).bytes.length + l.length) open_, .int .i64 ((F f).safe : Int)] 101 0 false (0, 0))).get b = some (.cells [.int .i64 d.quota, .map (some mn), .map (some ms), cv, .int .i64 d.appends, .int .i64 d.syncs] 96 0 false (0, 0)) := (get_other _ _ _ _ (Ne.symm hbf)).trans e1s
        have hd1 := hd.refile (s' := ⟨st'.heap.set f (.cells [.slice (some ⟨vb, vo, none⟩) ((F f).bytes.length + l.length) open_, .int .i64 ((F f).safe : Int)] 101 0 false (0, 0)), st'.next⟩) (O' := fun c => O c ∨ c = vb) (B := (F f).bytes ++ l) hI p1 (fun x y _ hx hb' hy => (get_other _ _ _ _ hx).trans (k6 x y hy fun hr => hb' hr.blk)) (get_same _ _ _)
          (by
            rw [List.length_append, byteCells_append]
            refine k1.mono fun x y hx hy => ?_
            obtain ⟨o', n', c', e⟩ := hx
            cases e
            exact (get_other _ _ _ _ hvf).trans hy)
          (fun c hc => by
            obtain ⟨o', n', c', e⟩ := hc
            cases e
            exact ⟨.inr rfl, z, (get_other _ _ _ _ hvf).trans hz⟩)
          (fun c hc => by
            obtain ⟨o', n', c', e⟩ := hc
            cases e
            rcases hvb with e | e
            · exact .inr fun ho => absurd (hd.lt _ ho) (by rw [e]; exact Nat.lt_irrefl _)
            · exact .inl e.blk)
          (fun c hc => .inl hc) (fun c hc => by
            rcases hc with hc | rfl
            · exact Nat.lt_of_lt_of_le (hd.lt c hc) k4
            · exact k3 _ _ hz)
        (try first | refine EvO.nx ?_ | refine EvA.nx ?_); repeat' (first | refine Abs.goH p1' ?_ | with_reducible refine Abs.fork (fun hb => ?_) (fun hb => ?_))
        refine add_ev hn e1' rfl ⟨_, _, rfl, ?_⟩
        (try first | refine EvO.nx ?_ | refine EvA.nx ?_); repeat' (first | refine Abs.go ?_ | with_reducible refine Abs.fork (fun hb => ?_) (fun hb => ?_))
        refine h3 f q1 (by omega) _ (fun c => O c ∨ c = vb) _ ⟨wf_put (wf_put k3 p1' _) e1' _, k4, fun c x hc hx => ?_, fun c hc => ?_⟩ (hd1.reset e1' d.quota (IntKind.i64.wrap (d.appends + 1)) d.syncs)
        · refine (get_other _ _ _ _ (by rintro rfl; exact hc hd.own)).trans ((get_other _ _ _ _ (by rintro rfl; exact hc p2)).trans (k6 c x hx fun hr => hc (p4 c hr.blk).1))
        · rcases hc with hc | rfl
          · exact .inl hc
          · rcases hvb with e | e
            · exact .inr (by rw [e]; exact Nat.le_refl _)
            · exact .inl (p4 _ e.blk).1
  · (try first | refine EvO.nx ?_ | refine EvA.nx ?_); repeat' (first | refine Abs.goH (Abs.cc e1 (Abs.cc hm (q2))) ?_ | with_reducible refine Abs.fork (fun hb => ?_) (fun hb => ?_))
    exact h1 q1
end
end Go.Proofs.YtbakhdgiimjnkaaGreatDoor

