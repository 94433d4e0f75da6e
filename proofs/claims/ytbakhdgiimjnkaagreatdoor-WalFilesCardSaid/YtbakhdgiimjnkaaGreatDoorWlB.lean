/-
  The evaluator and what is proved of it (several texts in one).
-/
import Derived.Test.YtbakhdgiimjnkaaGreatDoorWlA
import Derived.Test.YtbakhdgiimjnkaaGreatDoorDiskEv8
import Derived.Test.YtbakhdgiimjnkaaGreatDoorFrA
import Derived.Test.YtbakhdgiimjnkaaGreatDoorEvSet
set_option linter.unusedVariables false
set_option linter.unusedSimpArgs false
/-
  A disk seen by names, at the evaluator: what the disk's calls do of the view.
-/
namespace Go.Proofs.YtbakhdgiimjnkaaGreatDoor
open Abs
section
variable {Sm : Summ} {Q : Ans → Prop}
structure Dk (s0 s : St) (O : Nat → Prop) (b : Nat) (q : Int) (V : Vw) (t n c : Nat) : Prop where
  at_ : ∃ d F I, DkAt s O b d F I ∧ (∀ x, O x → s0.next ≤ x) ∧ (∀ f, I f → (F f).safe ≤ (F f).bytes.length ∧ (F f).bytes.length ≤ 1048576) ∧ Rest d F V t n c ∧ d.quota = q
  keep : Keep s0 s
  own : ∀ x, O x → ∃ y, s.heap.get x = some y ∧ y ≠ .cells [] 5 0 false (0, 0)
theorem DkAt.shrink {s : St} {O : Nat → Prop} {b : Nat} {d : DD} {F : Fs} {I : Nat → Prop} (h : DkAt s O b d F I) : DkAt s (fun x => O x ∧ ∃ y, s.heap.get x = some y ∧ y ≠ .cells [] 5 0 false (0, 0)) b d F I := by
  obtain ⟨mn, ms, cv, h1, h2, h3, h4, h5, h6, h7, h8⟩ := h.ex
  obtain ⟨bv, g1, g2⟩ := h.files
  have hm : ∀ {m : Nat} {l : Nms}, MapAt s m mkStr ptrV l → ∃ y, s.heap.get m = some y ∧ y ≠ .cells [] 5 0 false (0, 0) := fun hm => by
    obtain ⟨es, ck, e, _⟩ := hm
    exact ⟨_, e, by simp⟩
  refine ⟨⟨mn, ms, cv, h1, h2, ⟨h3, hm h5⟩, ⟨h4, hm h6⟩, h5, h6, h7, fun c hc => ⟨(h8 c hc).1, (h8 c hc).2, ?_⟩⟩, ⟨bv, fun f hf => ?_, g2⟩, ⟨h.own, _, h1, by simp⟩, fun c hc => h.lt c hc.1, h.inN, h.inS, h.inC, h.few⟩
  · obtain ⟨l, hl⟩ := h7.kind (h8 c hc).1 h.few
    exact ⟨_, hl, by simp⟩
  · obtain ⟨q1, q2, q3, q4⟩ := g1 f hf
    exact ⟨q1, ⟨q2, _, q1, by simp⟩, q3, fun c hc => ⟨⟨(q4 c hc).1, (q4 c hc).2.elim fun l hl => ⟨_, hl, by simp⟩⟩, (q4 c hc).2⟩⟩
theorem go_O {O O' : Nat → Prop} {s0 s s' : St} (k : Keep s0 s) (mv : Mv O O' s s') (ho : ∀ x, O x → s0.next ≤ x) : ∀ x, O' x → s0.next ≤ x := fun c hc => (mv.new c hc).elim (ho c) fun h => Nat.le_trans k.next h
theorem Dk.make {s0 s s' : St} (h0 : s0.wf) (k : Keep s0 s) {O O' : Nat → Prop} (mv : Mv O O' s s') (ho : ∀ x, O x → s0.next ≤ x) {b : Nat} {d : DD} {F : Fs} {I : Nat → Prop} (hd : DkAt s' O' b d F I) (hI : ∀ f, I f → (F f).safe ≤ (F f).bytes.length ∧ (F f).bytes.length ≤ 1048576) {V : Vw} {t n c : Nat} (hr : Rest d F V t n c) :
    ∃ O2, Mv O O2 s s' ∧ Dk s0 s' O2 b d.quota V t n c :=
  ⟨_, ⟨mv.wf, mv.next, mv.old, fun c (hc : _ ∧ _) => mv.new c hc.1⟩, ⟨⟨d, F, I, hd.shrink, fun x hx => go_O k mv ho x hx.1, hI, hr, rfl⟩, mv.keep k ho h0, fun x hx => hx.2⟩⟩
structure NoDisk (Sm : Summ) : Prop where
  dir : NoDir Sm
  file : NoFile Sm
  more : NoMore Sm
  total : Sm 71 = some sumTotal
  stat : Sm 30 = none
  pick : Sm 65 = none
  do_ : Sm 66 = none
  crash : Sm 27 = none
theorem Dk.old {s0 s s' : St} {O : Nat → Prop} {b : Nat} {q : Int} {V : Vw} {t n c : Nat} (h : Dk s0 s O b q V t n c) (k : Keep s s') : Dk s0 s' O b q V t n c := by
  obtain ⟨d, F, I, h1, h2⟩ := h.at_
  exact ⟨⟨d, F, I, h1.keep k, h2⟩, h.keep.trans k, fun x hx => by obtain ⟨y, h1, h2⟩ := h.own x hx; exact ⟨y, k.old _ _ h1, h2⟩⟩
theorem Dk.lt {s0 s : St} {O : Nat → Prop} {b : Nat} {q : Int} {V : Vw} {t n c : Nat} (h : Dk s0 s O b q V t n c) {x : Nat} (hx : O x) : x < s.next := by
  obtain ⟨d, F, I, h1, _⟩ := h.at_
  exact h1.lt x hx
theorem Dk.len {s0 s : St} {O : Nat → Prop} {b : Nat} {q : Int} {V : Vw} {t n c : Nat} (h : Dk s0 s O b q V t n c) {nm : Nm} {x : DF} (hx : V nm = some x) : x.safe ≤ x.bytes.length ∧ x.bytes.length ≤ 1048576 := by
  obtain ⟨d, F, I, h1, _, h3, h4, _⟩ := h.at_
  obtain ⟨f, hf, rfl⟩ := h4.get hx
  exact h3 f (h1.inN (nm, f) (aget_mem hf))
theorem Dk.mono {s0 s : St} {O : Nat → Prop} {b : Nat} {q : Int} {V : Vw} {t n c c' : Nat} (h : Dk s0 s O b q V t n c) (hc : c ≤ c') : Dk s0 s O b q V t n c' := by
  obtain ⟨d, F, I, h1, h2, h3, h4, h5⟩ := h.at_
  exact ⟨⟨d, F, I, h1, h2, h3, ⟨h4.nodup, h4.inj, h4.see, h4.tot, h4.len, h4.few, h4.short, Nat.le_trans h4.chgs hc, fun e => h4.safe (by omega)⟩, h5⟩, h.keep, h.own⟩
theorem Dk.same {s0 s : St} {O : Nat → Prop} {b : Nat} {q : Int} {V V' : Vw} {t n c : Nat} (h : Dk s0 s O b q V t n c) (hV : ∀ nm, V nm = V' nm) : Dk s0 s O b q V' t n c := by
  rw [← show V = V' from funext hV]
  exact h
theorem Dk.frame {s0 s s' : St} {O : Nat → Prop} {b : Nat} {q : Int} {V : Vw} {t n c : Nat} (h : Dk s0 s O b q V t n c) (hk : ∀ x y, O x → s.heap.get x = some y → s'.heap.get x = some y) (k : Keep s0 s') (hn : s.next ≤ s'.next) : Dk s0 s' O b q V t n c := by
  obtain ⟨d, F, I, h1, h2⟩ := h.at_
  exact ⟨⟨d, F, I, h1.mono hk hn, h2⟩, k, fun x hx => by obtain ⟨y, h1, h2⟩ := h.own x hx; exact ⟨y, hk _ _ hx h1, h2⟩⟩
theorem vnew_ev (n : NoDisk Sm) {s : St} (hwf : s.wf) {q : Int} (hq : 0 ≤ q) (h : ∀ s' O b, Dk s s' O b q (fun _ => none) 0 0 0 → Q (.val (.tuple #[.pointer (some ⟨b, 0, none⟩), .int .i64 0]) s')) :
    Ev Tryz.prog Sm (.inv (.fn (.func 19) #[]) [.int .i64 q] s) Q :=
  dnew_ev n.dir.new hwf hq fun s' O b k ho hd => h s' _ b ⟨⟨_, _, _, hd.shrink, fun x hx => ho x hx.1, fun _ h => h.elim, ⟨List.nodup_nil, List.nodup_nil, fun _ => rfl, rfl, rfl, by decide, (fun k h => by cases h), Nat.le_refl _, fun _ => rfl⟩, rfl⟩, k, fun x hx => hx.2⟩
theorem vcreate_ev (n : NoDisk Sm) {s0 s : St} (h0 : s0.wf) {O : Nat → Prop} {b : Nat} {q : Int} {V : Vw} {t m c : Nat} (hd : Dk s0 s O b q V t m c) (hc : c ≤ 100000) (hm : m < 1000) {nm : Nm} (hg : GoodN nm) (hv : V nm = none)
    (h : ∀ s' O', Mv O O' s s' → Dk s0 s' O' b q (V.set nm (some ⟨[], 0⟩)) t (m + 1) (c + 1) → Q (.val (.int .i64 0) s')) :
    Ev Tryz.prog Sm (.inv (.fn (.func 20) #[]) [.pointer (some ⟨b, 0, none⟩), .string ⟨⟨nm⟩⟩] s) Q := by
  obtain ⟨d, F, I, h1, h2, h3, h4, rfl⟩ := hd.at_
  have hch := h4.chgs
  refine create_ev n.dir h1 hd.keep.wf (by omega) (nm := nm) (by have := hg.2.1; omega) (fun hx => absurd hg hx) (fun _ hx => absurd (h4.no hv) hx) fun _ _ f s' O' mv hf hd' => ?_
  have a1 : ∀ x, (I x ∨ x = f) → ((F.put f ⟨[], 0⟩) x).safe ≤ ((F.put f ⟨[], 0⟩) x).bytes.length ∧ ((F.put f ⟨[], 0⟩) x).bytes.length ≤ 1048576 := fun x hx => by
    by_cases e : x = f
    · subst e; rw [fput_at]; exact ⟨Nat.le_refl _, Nat.zero_le _⟩
    · rw [fput_off F _ e]; exact h3 x (hx.resolve_right e)
  have a2 : (d.chg ⟨nm, some f, []⟩).names = aput d.names nm f := by
    show Chg.go d.names ⟨nm, some f, []⟩ = _
    unfold Chg.go
    rw [if_pos rfl]
  have a3 : (d.chg ⟨nm, some f, []⟩).chgs.length ≤ c + 1 := by
    show (d.chgs ++ [_]).length ≤ _
    rw [List.length_append, List.length_singleton]
    omega
  obtain ⟨O2, mv2, dk⟩ := Dk.make h0 hd.keep mv h2 hd' a1 (h4.new hv (fun e he e' => hf (by rw [← e']; exact h1.inN e he)) hg.2.1 (by omega) a2 a3)
  exact h s' O2 mv2 dk
theorem vremove_ev (n : NoDisk Sm) {s0 s : St} (h0 : s0.wf) {O : Nat → Prop} {b : Nat} {q : Int} {V : Vw} {t m c : Nat} (hd : Dk s0 s O b q V t m c) (hc : c ≤ 100000) {nm : Nm} (hne : nm ≠ []) {x : DF} (hv : V nm = some x)
    (h : ∀ s' O' t' m', t' + x.bytes.length = t → m' + 1 = m → Mv O O' s s' → Dk s0 s' O' b q (V.set nm none) t' m' (c + 1) → Q (.val (.int .i64 0) s')) :
    Ev Tryz.prog Sm (.inv (.fn (.func 61) #[]) [.pointer (some ⟨b, 0, none⟩), .string ⟨⟨nm⟩⟩] s) Q := by
  obtain ⟨d, F, I, h1, h2, h3, h4, rfl⟩ := hd.at_
  have hch := h4.chgs
  obtain ⟨f, hf, rfl⟩ := h4.get hv
  obtain ⟨e1, e2⟩ := sum_del F nm f d.names hf
  have e3 := h4.tot
  have e4 := h4.len
  unfold DD.total at e3
  obtain ⟨t', ht⟩ : ∃ t', t' + (F f).bytes.length = t := ⟨_, e1.trans e3⟩
  obtain ⟨m', hm⟩ : ∃ m', m' + 1 = m := ⟨_, e2.trans e4⟩
  refine remove_ev n.dir h1 hd.keep.wf (by omega) (nm := nm) (fun hx => by rw [hf] at hx; cases hx) fun _ s' O' mv hd' => ?_
  have a2 : (d.chg ⟨[], none, nm⟩).names = adel d.names nm := by
    show Chg.go d.names ⟨[], none, nm⟩ = _
    unfold Chg.go
    rw [if_neg hne]
  have a3 : (d.chg ⟨[], none, nm⟩).chgs.length ≤ c + 1 := by
    show (d.chgs ++ [_]).length ≤ _
    rw [List.length_append, List.length_singleton]
    omega
  obtain ⟨O2, mv2, dk⟩ := Dk.make h0 hd.keep mv h2 hd' h3 (h4.del hf ht hm a2 a3)
  exact h s' O2 t' m' ht hm mv2 dk
theorem vsyncDir_ev (n : NoDisk Sm) {s0 s : St} (h0 : s0.wf) {O : Nat → Prop} {b : Nat} {q : Int} {V : Vw} {t m c : Nat} (hd : Dk s0 s O b q V t m c)
    (h : ∀ s' O', Mv O O' s s' → Dk s0 s' O' b q V t m 0 → Q (.val (.int .i64 0) s')) :
    Ev Tryz.prog Sm (.inv (.fn (.func 62) #[]) [.pointer (some ⟨b, 0, none⟩)] s) Q := by
  obtain ⟨d, F, I, h1, h2, h3, h4, rfl⟩ := hd.at_
  refine syncDir_ev n.file n.more h1 hd.keep.wf fun s' O' y mv hd' => ?_
  obtain ⟨O2, mv2, dk⟩ := Dk.make (V := V) (t := t) (n := m) (c := 0) h0 hd.keep mv h2 hd' h3 ⟨h4.nodup, h4.inj, h4.see, h4.tot, h4.len, h4.few, h4.short, Nat.le_refl _, fun _ => rfl⟩
  exact h s' O2 mv2 dk
theorem vsync_ev (n : NoDisk Sm) {s0 s : St} (h0 : s0.wf) {O : Nat → Prop} {b : Nat} {q : Int} {V : Vw} {t m c : Nat} (hd : Dk s0 s O b q V t m c) {nm : Nm} {x : DF} (hv : V nm = some x)
    (h : ∀ s' O', Mv O O' s s' → Dk s0 s' O' b q (V.set nm (some ⟨x.bytes, x.bytes.length⟩)) t m c → Q (.val (.int .i64 0) s')) :
    Ev Tryz.prog Sm (.inv (.fn (.func 69) #[]) [.pointer (some ⟨b, 0, none⟩), .string ⟨⟨nm⟩⟩] s) Q := by
  obtain ⟨d, F, I, h1, h2, h3, h4, rfl⟩ := hd.at_
  obtain ⟨f, hf, rfl⟩ := h4.get hv
  refine dsync_ev n.file h1 hd.keep.wf (nm := nm) (fun hx => by rw [hf] at hx; cases hx) fun f' hf' s' y mv hd' => ?_
  obtain rfl : f = f' := by rw [hf] at hf'; exact Option.some.inj hf'
  have hI := h3 f (h1.inN (nm, f) (aget_mem hf))
  have a1 : ∀ x, I x → ((F.put f ⟨(F f).bytes, (F f).bytes.length⟩) x).safe ≤ ((F.put f ⟨(F f).bytes, (F f).bytes.length⟩) x).bytes.length ∧ ((F.put f ⟨(F f).bytes, (F f).bytes.length⟩) x).bytes.length ≤ 1048576 := fun x hx => by
    by_cases e : x = f
    · subst e; rw [fput_at]; exact ⟨Nat.le_refl _, hI.2⟩
    · rw [fput_off F _ e]; exact h3 x hx
  obtain ⟨O2, mv2, dk⟩ := Dk.make h0 hd.keep mv h2 hd' a1 (h4.put hf ⟨(F f).bytes, (F f).bytes.length⟩ (t' := t) rfl rfl rfl rfl)
  exact h s' O2 mv2 dk
theorem vappend_ev (n : NoDisk Sm) {s0 s : St} (h0 : s0.wf) {O : Nat → Prop} {b : Nat} {q : Int} {V : Vw} {t m c : Nat} (hd : Dk s0 s O b q V t m c) (hq : -1000000000000 ≤ q ∧ q ≤ 9223372036854775807) {nm : Nm} {x : DF} (hv : V nm = some x) {v : Value} {l : List UInt8} (hl : BytesB s v l) (hO : ∀ c, inBlk v c → ¬ O c) (hlen : x.bytes.length + l.length ≤ 1048576)
    (h1 : q - (t : Int) < (l.length : Int) → Q (.val (.int .i64 5) s))
    (h : (l.length : Int) ≤ q - (t : Int) → ∀ s' O', Mv O O' s s' → Dk s0 s' O' b q (V.set nm (some ⟨x.bytes ++ l, x.safe⟩)) (t + l.length) m c → Q (.val (.int .i64 0) s')) :
    Ev Tryz.prog Sm (.inv (.fn (.func 40) #[]) [.pointer (some ⟨b, 0, none⟩), .string ⟨⟨nm⟩⟩, v] s) Q := by
  obtain ⟨d, F, I, g1, g2, g3, g4, rfl⟩ := hd.at_
  obtain ⟨f, hf, rfl⟩ := g4.get hv
  have htt := g4.tot_le fun e he => (g3 e.2 (g1.inN e he)).2
  refine dappend_ev n.file n.total g1 hd.keep.wf g4.nodup (by rw [g4.tot]; exact htt) (by omega) (nm := nm) hl (by omega) (fun f hf => Nat.le_trans (g3 f hf).2 (by decide)) hO (fun hx => by rw [hf] at hx; cases hx) (fun _ hx => h1 (by rw [g4.tot] at hx; exact hx)) fun f' hf' hx s' O' y mv hd' => ?_
  obtain rfl : f = f' := by rw [hf] at hf'; exact Option.some.inj hf'
  have hI := g3 f (g1.inN (nm, f) (aget_mem hf))
  rw [g4.tot] at hx
  have a1 : ∀ x, I x → ((F.put f ⟨(F f).bytes ++ l, (F f).safe⟩) x).safe ≤ ((F.put f ⟨(F f).bytes ++ l, (F f).safe⟩) x).bytes.length ∧ ((F.put f ⟨(F f).bytes ++ l, (F f).safe⟩) x).bytes.length ≤ 1048576 := fun x hx => by
    by_cases e : x = f
    · subst e; rw [fput_at]; simp only [List.length_append]; omega
    · rw [fput_off F _ e]; exact g3 x hx
  obtain ⟨O2, mv2, dk⟩ := Dk.make h0 hd.keep mv g2 hd' a1 (g4.put hf ⟨(F f).bytes ++ l, (F f).safe⟩ (t' := t + l.length) (by simp only [List.length_append]; omega) rfl rfl rfl)
  exact h hx s' O2 mv2 dk
theorem vread_ev (n : NoDisk Sm) {s0 s : St} {O : Nat → Prop} {b : Nat} {q : Int} {V : Vw} {t m c : Nat} (hd : Dk s0 s O b q V t m c) {nm : Nm} {x : DF} (hv : V nm = some x)
    (h : ∀ v s', Keep s s' → TxtB s' s.next v x.bytes → Q (.val (.tuple #[v, .int .i64 0]) s')) :
    Ev Tryz.prog Sm (.inv (.fn (.func 39) #[]) [.pointer (some ⟨b, 0, none⟩), .string ⟨⟨nm⟩⟩] s) Q := by
  obtain ⟨d, F, I, h1, h2, h3, h4, h5⟩ := hd.at_
  obtain ⟨f, hf, rfl⟩ := h4.get hv
  refine dread_ev n.file h1 hd.keep.wf (nm := nm) (fun f hf => Nat.le_trans (h3 f hf).2 (by decide)) (fun hx => by rw [hf] at hx; cases hx) fun f' hf' v s' k tx => ?_
  obtain rfl : f = f' := by rw [hf] at hf'; exact Option.some.inj hf'
  exact h v s' k tx
theorem vlist_ev (n : NoDisk Sm) {s0 s : St} {O : Nat → Prop} {b : Nat} {q : Int} {V : Vw} {t m c : Nat} (hd : Dk s0 s O b q V t m c)
    (h : ∀ ks v s', Sorted V ks → ks.length = m → (∀ k ∈ ks, k.length ≤ 64) → Keep s s' → Vec s' 9 1 v m (valsOf ks) → (∀ c, inBlk v c → s.next ≤ c) → Q (.val v s')) :
    Ev Tryz.prog Sm (.inv (.fn (.func 26) #[]) [.pointer (some ⟨b, 0, none⟩)] s) Q := by
  obtain ⟨d, F, I, h1, h2, h3, h4, h5⟩ := hd.at_
  obtain ⟨e1, e2⟩ := h4.sorted
  have e3 := h4.len
  have e4 := h4.few
  refine list_ev n.file n.more h1 hd.keep.wf h4.nodup (by omega) (fun k hk => Nat.le_trans (h4.short k hk) (by decide)) fun v s' k hv lo => h d.keys v s' e1 e2 (fun k hk => h4.short k ((sortB_perm _).mem_iff.1 hk)) k (by rw [← e3]; exact hv) lo
end
end Go.Proofs.YtbakhdgiimjnkaaGreatDoor

/-
  wal: name, goodPrefix, number and numbers, strconv.Atoi, at the evaluator.
-/
namespace Go.Proofs.YtbakhdgiimjnkaaGreatDoor
open Abs
set_option maxHeartbeats 16000000
set_option maxRecDepth 20000
set_option linter.unusedSimpArgs false
attribute [local irreducible] Abs.Ev Abs.EvF Abs.EvO Abs.EvA Abs.Seq Abs.Blk Abs.Body Abs.Scp Abs.EvG Abs.EvAg Abs.Nx
attribute [local go_sem] Tryz.underlying3 Ty.sz3 Ty.by3 Ty.ag3 Ty.ze3 Tryz.underlying4 Ty.sz4 Ty.by4 Ty.ag4 Ty.ze4 Tryz.underlying5 Ty.sz5 Ty.by5 Ty.ag5 Ty.ze5 Tryz.underlying9 Ty.sz9 Ty.by9 Ty.ag9 Ty.ze9 Tryz.underlying28 Ty.sz28 Ty.by28 Ty.ag28 Ty.ze28 Tryz.underlying45 Ty.sz45 Ty.by45 Ty.ag45 Ty.ze45 Tryz.underlying46 Ty.sz46 Ty.by46 Ty.ag46 Ty.ze46 Tryz.underlying96 Ty.sz96 Ty.by96 Ty.ag96 Ty.ze96 Tryz.underlying117 Ty.sz117 Ty.by117 Ty.ag117 Ty.ze117
section
variable {Sm : Summ} {Q : Ans → Prop}
structure NoWN (Sm : Summ) : Prop where
  nm : NoName Sm
  disk : NoDisk Sm
  name : Sm 75 = none
  good : Sm 73 = none
  number : Sm 102 = none
  numbers : Sm 74 = none
  atoi : Sm 125 = none
  iatoi : Sm 148 = none
/-- a log as it lies -/
def LogAt (s : St) (lb b : Nat) (p : Nm) (most first last by_ rec : Nat) : Prop :=
  s.heap.get lb = some (.cells [.pointer (some ⟨b, 0, none⟩), .string ⟨⟨p⟩⟩, .int .i64 (most : Int), .int .i64 (first : Int), .int .i64 (last : Int), .int .i64 (by_ : Int), .int .i64 (rec : Int)] 117 0 false (0, 0))
theorem LogAt.old {s s' : St} {lb b : Nat} {p : Nm} {most first last by_ rec : Nat} (h : LogAt s lb b p most first last by_ rec) (k : Keep s s') : LogAt s' lb b p most first last by_ rec := k.old _ _ h
/-- the table that Itoa reads -/
def P10At (s : St) : Prop := ∃ e, s.heap.get 0 = some (.const (pow10L.map fun z => Value.int .u64 z) e)
theorem P10At.old {s s' : St} (h : P10At s) (k : Keep s s') : P10At s' := by
  obtain ⟨e, h⟩ := h
  exact ⟨e, k.old _ _ h⟩
theorem wname_ev (hn : NoWN Sm) {s : St} (hwf : s.wf) (hT : P10At s) {lb b : Nat} {p : Nm} {most first last by_ rec : Nat} (hb : LogAt s lb b p most first last by_ rec) (hp : p.length ≤ 1000) {n : Nat} (h20 : n < 1000000) (h : ∀ s', Keep s s' → Q (.val (.string ⟨⟨segN p n⟩⟩) s')) :
    Ev Tryz.prog Sm (.inv (.fn (.func 75) #[]) [.pointer (some ⟨lb, 0, none⟩), .int .i64 (n : Int)] s) Q := by
  refine Ev.func hn.name Tryz.func75 rfl (m := 19) rfl ?_
  simp only [Array.toList_empty, List.append_nil, ofList_cons, ofList_nil]
  obtain ⟨e, hT⟩ := hT
  (try first | refine EvO.nx ?_ | refine EvA.nx ?_); repeat' (first | refine Abs.go ?_ | with_reducible refine Abs.fork (fun hb => ?_) (fun hb => ?_))
  refine itoa_ev hn.nm.itoa hwf hT h20 fun s1 k1 => ⟨_, _, rfl, ?_⟩
  obtain ⟨d1, d2, d3⟩ := decB_len n
  have hz := six_zero h20
  have e3 : (6 : Int) - ((ndig n : Nat) : Int) = ((6 - ndig n : Nat) : Int) := by omega
  have hb1 : LogAt s1 lb b p most first last by_ rec := hb.old k1
  unfold LogAt at hb1
  generalize decB n = D at *
  generalize ndig n = d at *
  (try first | refine EvO.nx ?_ | refine EvA.nx ?_); repeat' (first | refine Abs.go ?_ | with_reducible refine Abs.fork (fun hb => ?_) (fun hb => ?_))
  refine Abs.Ev.regionD (n := 0) (l := [.go 0, .go 1, .go 2, .go 3, .go 4, .go 5, .go 6, .go 9, .go 7, .again 3, .go 8, .go 10, .go 11]) (by kernel_rfl) ?_
  (try first | refine EvO.nx ?_ | refine EvA.nx ?_); repeat' (first | refine Abs.goH (Abs.cc hb1 (Abs.cc d1 (e3))) ?_ | with_reducible refine Abs.fork (fun hb => ?_) (fun hb => ?_))
  refine Ev.summ hn.nm.rep (rep_val (by omega) _) ⟨_, _, rfl, ?_⟩
  have hzl : (zeroes (6 - d)).length ≤ 6 := by
    have : ∀ m, m ≤ 5 → (zeroes m).length ≤ 6 := by decide
    exact this _ (by omega)
  have a1 : aStr .add p (zeroes (6 - d)) = .ok (mkStr (p ++ zeroes (6 - d))) := str_add _ _ (by omega)
  have a2 : aStr .add (p ++ zeroes (6 - d)) D = .ok (mkStr (p ++ zeroes (6 - d) ++ D)) := str_add _ _ (by rw [List.length_append]; omega)
  (try first | refine EvO.nx ?_ | refine EvA.nx ?_); repeat' (first | refine Abs.goH (Abs.cc hb1 (Abs.cc a1 (a2))) ?_ | with_reducible refine Abs.fork (fun hb => ?_) (fun hb => ?_))
  have h' := h _ k1
  unfold segN at h'
  rw [← hz] at h'
  show Q (.val (.string _) s1)
  simpa using h'
theorem wgood_ev (hn : NoWN Sm) {s : St} (hwf : s.wf) {p : Nm} (h1 : 1 ≤ p.length) (h2 : p.length ≤ 58) (hg : ∀ c ∈ p, c ∈ letters) (hT : ∀ s', Keep s s' → Q (.val (.bool true) s')) :
    Ev Tryz.prog Sm (.inv (.fn (.func 73) #[]) [.string ⟨⟨p⟩⟩] s) Q := by
  refine Ev.func hn.good Tryz.func73 rfl (m := 11) rfl ?_
  simp only [Array.toList_empty, List.append_nil, ofList_cons, ofList_nil]
  have hlow : allLow letters = true := by decide
  have e : sumTrim [.string ⟨⟨p⟩⟩, .string ⟨⟨letters⟩⟩] s = .ok (mkStr (dropIn letters (trimR letters p)), ⟨s.heap, s.next + 2⟩) := by
    unfold sumTrim
    simp only [hlow, lenN_eq]
    rw [show Nat.blt 1 letters.length = true by decide, show Nat.ble letters.length 1073741824 = true by decide, show Nat.blt 0 p.length = true by simp; omega, show Nat.ble p.length 1073741824 = true by simp; omega]
    rfl
  (try first | refine EvO.nx ?_ | refine EvA.nx ?_); repeat' (first | refine Abs.go ?_ | with_reducible refine Abs.fork (fun hb => ?_) (fun hb => ?_))
  refine Ev.summ hn.nm.trim e ⟨_, _, rfl, ?_⟩
  have hk : Keep s ⟨s.heap, s.next + 2⟩ := (Keep.refl hwf).grow (Nat.le_add_right _ _)
  rw [(trim_all letters p).2 hg]
  (try first | refine EvO.nx ?_ | refine EvA.nx ?_); repeat' (first | refine Abs.go ?_ | with_reducible refine Abs.fork (fun hb => ?_) (fun hb => ?_))
  exact hT _ hk
theorem valD_snoc (l : List UInt8) (c : UInt8) : valD (l ++ [c]) = valD l * 10 + (c.toNat - 48) := by simp [valD, List.foldl_append]
theorem valD_lt' : ∀ (l : List UInt8) (v : Nat), (∀ c ∈ l, c ∈ digits) → l.foldl (fun v c => v * 10 + (c.toNat - 48)) v + 1 ≤ (v + 1) * 10 ^ l.length
  | [], v, _ => by simp
  | c :: l, v, h => by
    have hc := digits_at c (h c (List.mem_cons_self ..))
    have ih := valD_lt' l (v * 10 + (c.toNat - 48)) fun x hx => h x (List.mem_cons_of_mem _ hx)
    rw [List.foldl_cons, List.length_cons, Nat.pow_succ]
    refine Nat.le_trans ih ?_
    rw [Nat.mul_comm (10 ^ l.length) 10, ← Nat.mul_assoc]
    exact Nat.mul_le_mul_right _ (by omega)
theorem valD_small {l : List UInt8} (hd : ∀ c ∈ l, c ∈ digits) (hl : l.length ≤ 6) : valD l < 1000000 := by
  have h1 := valD_lt' l 0 hd
  have h2 : 10 ^ l.length ≤ 10 ^ 6 := Nat.pow_le_pow_right (by decide) hl
  have h3 : (10 : Nat) ^ 6 = 1000000 := rfl
  show l.foldl _ 0 < _
  omega
theorem bytes_at {l : List UInt8} {i : Nat} (h : i < l.length) : (byteCells l)[i]? = some (.int .u8 ((l[i].toNat : Nat) : Int)) := by
  rw [byteCells_eq, List.getElem?_map, List.getElem?_eq_getElem h]
  rfl
theorem iatoi_ev (hn : NoWN Sm) {s : St} (hwf : s.wf) {l : List UInt8} (hl : l.length = 6) (hd : ∀ c ∈ l, c ∈ digits) (h : ∀ s', Keep s s' → Q (.val (.tuple #[.int .i64 ((valD l : Nat) : Int), .nilIface]) s')) :
    Ev Tryz.prog Sm (.inv (.fn (.func 148) #[]) [.string ⟨⟨l⟩⟩] s) Q := by
  refine Ev.func hn.iatoi Tryz.func148 rfl (m := 77) rfl ?_
  simp only [Array.toList_empty, List.append_nil, ofList_cons, ofList_nil]
  have h0 : ∃ c, l[0]? = some c ∧ 48 ≤ c.toNat ∧ c.toNat ≤ 57 := by
    have h1 : 0 < l.length := by omega
    exact ⟨l[0], List.getElem?_eq_getElem h1, digits_at _ (hd _ (List.getElem_mem h1))⟩
  obtain ⟨c0, hc0, c48, c57⟩ := h0
  (try first | refine EvO.nx ?_ | refine EvA.nx ?_); repeat' (first | refine Abs.goH (Abs.cc hl (hc0)) ?_ | with_reducible refine Abs.fork (fun hb => ?_) (fun hb => ?_))
  have k1 := (Keep.refl hwf).new (.cells (byteCells l) 5 1 true (open_, open_))
  have hbl := byteCells_len l
  refine Ev.loop (fun k a' s' => s' = ⟨s.heap.set s.next (.cells (byteCells l) 5 1 true (open_, open_)), s.next + 1⟩ ∧ ∃ T i, a' = ⟨T, 77, []⟩ ∧ T.get 5 = some (.string ⟨⟨l⟩⟩) ∧ T.get 47 = some (.slice (some ⟨s.next, 0, none⟩) 6 open_) ∧ T.get 48 = some (.int .i64 6) ∧ T.get 49 = some (.int .i64 ((i : Nat) : Int)) ∧ T.get 6 = some (.int .i64 ((valD (l.take i) : Nat) : Int)) ∧ i ≤ 6 ∧ k = 6 - i) (k := 6)
    ⟨rfl, _, 0, rfl, ?g5, ?g47, ?g48, ?g49, ?g6, Nat.zero_le _, rfl⟩ ?_
  case g5 => simp (disch := first | omega | assumption) only [go_sem, ]
  case g47 => simp (disch := first | omega | assumption) only [go_sem, ]; rw [hl]
  case g48 => simp (disch := first | omega | assumption) only [go_sem, ]; try rfl
  case g49 => simp (disch := first | omega | assumption) only [go_sem, ]; try rfl
  case g6 => simp (disch := first | omega | assumption) only [go_sem, ]; try rfl
  rintro k a' s' ⟨rfl, T, i, rfl, g5, g47, g48, g49, g6, hi, rfl⟩
  by_cases hil : i < 6
  · have hil' : i < l.length := by omega
    have hc := hd _ (List.getElem_mem hil')
    obtain ⟨q1, q2⟩ := digits_at _ hc
    have hat := bytes_at hil'
    have htk : valD (l.take (i + 1)) = valD (l.take i) * 10 + (l[i].toNat - 48) := by
      rw [List.take_succ_eq_append_getElem hil', valD_snoc]
    have hsm : valD (l.take i) < 1000000 := valD_small (fun c hc => hd c (List.mem_of_mem_take hc)) (by rw [List.length_take]; omega)
    generalize l[i] = c at *
    generalize valD (l.take i) = v at *
    (try first | refine EvO.nx ?_ | refine EvA.nx ?_); repeat' (first | refine Abs.goH (Abs.cc g5 (Abs.cc g47 (Abs.cc g48 (Abs.cc g49 (Abs.cc g6 (Abs.cc hat (hbl))))))) ?_ | with_reducible refine Abs.fork (fun hb => ?_) (fun hb => ?_))
    refine ⟨6 - (i + 1), by omega, rfl, _, i + 1, rfl, ?_, ?_, ?_, ?_, ?_, by omega, rfl⟩
    · simp (disch := first | omega | assumption) only [go_sem, g5]
    · simp (disch := first | omega | assumption) only [go_sem, g47]
    · simp (disch := first | omega | assumption) only [go_sem, g48]
    · simp (disch := first | omega | assumption) only [go_sem, Int.natCast_add, Int.natCast_one]
    · rw [htk]
      simp (disch := first | omega | assumption) only [go_sem, ]
      congr 2
      omega
  · obtain rfl : i = 6 := by omega
    rw [List.take_of_length_le (by omega)] at g6
    (try first | refine EvO.nx ?_ | refine EvA.nx ?_); repeat' (first | refine Abs.goH (Abs.cc g5 (Abs.cc g47 (Abs.cc g48 (Abs.cc g49 (Abs.cc g6 (hc0)))))) ?_ | with_reducible refine Abs.fork (fun hb => ?_) (fun hb => ?_))
    exact h _ k1
theorem atoi_ev (hn : NoWN Sm) {s : St} (hwf : s.wf) {l : List UInt8} (hl : l.length = 6) (hd : ∀ c ∈ l, c ∈ digits) (h : ∀ s', Keep s s' → Q (.val (.tuple #[.int .i64 ((valD l : Nat) : Int), .nilIface]) s')) :
    Ev Tryz.prog Sm (.inv (.fn (.func 125) #[]) [.string ⟨⟨l⟩⟩] s) Q := by
  refine Ev.func hn.atoi Tryz.func125 rfl (m := 18) rfl ?_
  simp only [Array.toList_empty, List.append_nil, ofList_cons, ofList_nil]
  (try first | refine EvO.nx ?_ | refine EvA.nx ?_); repeat' (first | refine Abs.go ?_ | with_reducible refine Abs.fork (fun hb => ?_) (fun hb => ?_))
  refine iatoi_ev hn hwf hl hd fun s' k => ⟨_, _, rfl, ?_⟩
  (try first | refine EvO.nx ?_ | refine EvA.nx ?_); repeat' (first | refine Abs.go ?_ | with_reducible refine Abs.fork (fun hb => ?_) (fun hb => ?_))
  exact h s' k
theorem wnumber_ev (hn : NoWN Sm) {s : St} (hwf : s.wf) {lb b : Nat} {p : Nm} {most first last by_ rec : Nat} (hb : LogAt s lb b p most first last by_ rec) {nm : Nm} (hl : nm.length ≤ 1000000) (h : ∀ s', Keep s s' → Q (.val (.int .i64 ((numP p nm : Nat) : Int)) s')) :
    Ev Tryz.prog Sm (.inv (.fn (.func 102) #[]) [.pointer (some ⟨lb, 0, none⟩), .string ⟨⟨nm⟩⟩] s) Q := by
  refine Ev.func hn.number Tryz.func102 rfl (m := 36) rfl ?_
  simp only [Array.toList_empty, List.append_nil, ofList_cons, ofList_nil]
  unfold LogAt at hb
  (try first | refine EvO.nx ?_ | refine EvA.nx ?_); repeat' (first | refine Abs.goH hb ?_ | with_reducible refine Abs.fork (fun hb => ?_) (fun hb => ?_))
  refine cutPrefix_ev hn.nm (p := p) ⟨_, _, rfl, ?_⟩
  by_cases hp : p <+: nm
  · have hpl := hp.length_le
    rw [if_pos hp, show decide (p <+: nm) = true by simpa using hp]
    have hdl : (List.drop p.length nm).length = nm.length - p.length := List.length_drop
    by_cases h8 : nm.length = p.length + 6
    · have e : sumTrim [.string ⟨⟨nm.drop p.length⟩⟩, .string ⟨⟨digits⟩⟩] s = .ok (mkStr (dropIn digits (trimR digits (nm.drop p.length))), ⟨s.heap, s.next + 2⟩) := by
        have hlow : allLow digits = true := by decide
        have hlen : (nm.drop p.length).length = 6 := by rw [List.length_drop]; omega
        unfold sumTrim
        simp only [hlow, lenN_eq, hlen]
        rfl
      (try first | refine EvO.nx ?_ | refine EvA.nx ?_); repeat' (first | refine Abs.goH hdl ?_ | with_reducible refine Abs.fork (fun hb => ?_) (fun hb => ?_))
      refine Ev.summ hn.nm.trim e ⟨_, _, rfl, ?_⟩
      have hk : Keep s ⟨s.heap, s.next + 2⟩ := (Keep.refl hwf).grow (Nat.le_add_right _ _)
      by_cases hg : dropIn digits (trimR digits (nm.drop p.length)) = []
      · rw [hg]
        have hd := (trim_all _ _).1 hg
        have hv : numP p nm = valD (nm.drop p.length) := by unfold numP; rw [if_pos ⟨hp, h8, hd⟩]
        rw [hv] at h
        (try first | refine EvO.nx ?_ | refine EvA.nx ?_); repeat' (first | refine Abs.go ?_ | with_reducible refine Abs.fork (fun hb => ?_) (fun hb => ?_))
        refine atoi_ev hn hk.wf (by omega) hd fun s' k => ⟨_, _, rfl, ?_⟩
        (try first | refine EvO.nx ?_ | refine EvA.nx ?_); repeat' (first | refine Abs.go ?_ | with_reducible refine Abs.fork (fun hb => ?_) (fun hb => ?_))
        exact h s' (hk.trans k)
      · have hg2 : (dropIn digits (trimR digits (nm.drop p.length)) == []) = false := by simpa using hg
        have hv : numP p nm = 0 := by unfold numP; rw [if_neg (fun h => hg ((trim_all _ _).2 h.2.2))]
        rw [hv] at h
        (try first | refine EvO.nx ?_ | refine EvA.nx ?_); repeat' (first | refine Abs.goH hg2 ?_ | with_reducible refine Abs.fork (fun hb => ?_) (fun hb => ?_))
        exact h _ hk
    · have hv : numP p nm = 0 := by unfold numP; rw [if_neg (fun h => h8 h.2.1)]
      rw [hv] at h
      (try first | refine EvO.nx ?_ | refine EvA.nx ?_); repeat' (first | refine Abs.goH hdl ?_ | with_reducible refine Abs.fork (fun hb => ?_) (fun hb => ?_))
      all_goals exact h _ (Keep.refl hwf)
  · have hv : numP p nm = 0 := by unfold numP; rw [if_neg (fun h => hp h.1)]
    rw [hv] at h
    rw [if_neg hp, show decide (p <+: nm) = false by simpa using hp]
    (try first | refine EvO.nx ?_ | refine EvA.nx ?_); repeat' (first | refine Abs.go ?_ | with_reducible refine Abs.fork (fun hb => ?_) (fun hb => ?_))
    exact h _ (Keep.refl hwf)
end
end Go.Proofs.YtbakhdgiimjnkaaGreatDoor

/-
  wal: settled, next, Append, Sync, Rotate, Cut and the getters, at the evaluator.
-/
namespace Go.Proofs.YtbakhdgiimjnkaaGreatDoor
open Abs
set_option maxHeartbeats 16000000
set_option maxRecDepth 20000
set_option linter.unusedSimpArgs false
attribute [local irreducible] Abs.Ev Abs.EvF Abs.EvO Abs.EvA Abs.Seq Abs.Blk Abs.Body Abs.Scp Abs.EvG Abs.EvAg Abs.Nx
attribute [local go_sem] Tryz.underlying3 Ty.sz3 Ty.by3 Ty.ag3 Ty.ze3 Tryz.underlying4 Ty.sz4 Ty.by4 Ty.ag4 Ty.ze4 Tryz.underlying5 Ty.sz5 Ty.by5 Ty.ag5 Ty.ze5 Tryz.underlying9 Ty.sz9 Ty.by9 Ty.ag9 Ty.ze9 Tryz.underlying28 Ty.sz28 Ty.by28 Ty.ag28 Ty.ze28 Tryz.underlying45 Ty.sz45 Ty.by45 Ty.ag45 Ty.ze45 Tryz.underlying46 Ty.sz46 Ty.by46 Ty.ag46 Ty.ze46 Tryz.underlying96 Ty.sz96 Ty.by96 Ty.ag96 Ty.ze96 Tryz.underlying117 Ty.sz117 Ty.by117 Ty.ag117 Ty.ze117
section
variable {Sm : Summ} {Q : Ans → Prop}
structure NoWL (Sm : Summ) : Prop where
  wn : NoWN Sm
  frame : NoFrame Sm
  crc : Sm 112 = none
  settled : Sm 76 = none
  next : Sm 77 = none
  append : Sm 33 = none
  sync : Sm 43 = none
  rotate : Sm 45 = none
  cut : Sm 34 = none
  first : Sm 35 = none
  last : Sm 36 = none
  records : Sm 37 = none
/-- a prefix that serves -/
structure PreOk (p : Nm) : Prop where
  one : 1 ≤ p.length
  len : p.length ≤ 58
  let_ : ∀ c ∈ p, c ∈ letters
/-- a log and its disk -/
structure Lg (s0 s : St) (O : Nat → Prop) (lb b : Nat) (p : Nm) (most first last by_ rec : Nat) (q : Int) (V : Vw) (t n c : Nat) : Prop where
  dk : Dk s0 s O b q V t n c
  at_ : LogAt s lb b p most first last by_ rec
  off : ¬ O lb
  lo : s0.next ≤ lb
abbrev Mw (lb : Nat) (O O' : Nat → Prop) (s s' : St) : Prop := Mv (fun x => O x ∨ x = lb) (fun x => O' x ∨ x = lb) s s'
theorem Mw.of {lb : Nat} {O O' : Nat → Prop} {s s' : St} (mv : Mv O O' s s') : Mw lb O O' s s' :=
  ⟨mv.wf, mv.next, fun c x hc hx => mv.old c x (fun h => hc (.inl h)) hx, fun c hc => hc.elim (fun h => (mv.new c h).imp .inl id) fun h => .inl (.inr h)⟩
theorem LogAt.lt {s : St} (hwf : s.wf) {lb b : Nat} {p : Nm} {most first last by_ rec : Nat} (h : LogAt s lb b p most first last by_ rec) : lb < s.next := hwf _ _ h
theorem Mv.off {O O' : Nat → Prop} {s s' : St} (mv : Mv O O' s s') {c : Nat} {x : AObj} (hwf : s.wf) (hx : s.heap.get c = some x) (hc : ¬ O c) : ¬ O' c := fun h => (mv.new c h).elim hc fun h => by have := hwf c x hx; omega
theorem Lg.old {s0 s s' : St} {O : Nat → Prop} {lb b : Nat} {p : Nm} {most first last by_ rec : Nat} {q : Int} {V : Vw} {t n c : Nat} (h : Lg s0 s O lb b p most first last by_ rec q V t n c) (k : Keep s s') : Lg s0 s' O lb b p most first last by_ rec q V t n c := ⟨h.dk.old k, h.at_.old k, h.off, h.lo⟩
theorem Lg.mv {s0 s s' : St} {O O' : Nat → Prop} {lb b : Nat} {p : Nm} {most first last by_ rec : Nat} {q q' : Int} {V V' : Vw} {t t' n n' c c' : Nat} (h : Lg s0 s O lb b p most first last by_ rec q V t n c) (mv : Mv O O' s s') (hd : Dk s0 s' O' b q' V' t' n' c') : Lg s0 s' O' lb b p most first last by_ rec q' V' t' n' c' :=
  ⟨hd, mv.old _ _ h.off h.at_, mv.off h.dk.keep.wf h.at_ h.off, h.lo⟩
/-- a block turns, nothing else -/
structure Turned (lb : Nat) (s s' : St) : Prop where
  next : s'.next = s.next
  old : ∀ c, c ≠ lb → s'.heap.get c = s.heap.get c
theorem Lg.turn {s0 s s' : St} (h0 : s0.wf) {O : Nat → Prop} {lb b : Nat} {p : Nm} {most first last by_ rec first' last' by_' rec' : Nat} {q : Int} {V : Vw} {t n c : Nat} (h : Lg s0 s O lb b p most first last by_ rec q V t n c) (ht : Turned lb s s') (hb : LogAt s' lb b p most first' last' by_' rec') :
    Lg s0 s' O lb b p most first' last' by_' rec' q V t n c ∧ Mw lb O O s s' := by
  have hlt := h.at_.lt h.dk.keep.wf
  have hwf : s'.wf := fun c x hx => by
    by_cases e : c = lb
    · rw [e, ht.next]; exact hlt
    · rw [ht.old c e] at hx; rw [ht.next]; exact h.dk.keep.wf c x hx
  have hk : Keep s0 s' := ⟨hwf, by rw [ht.next]; exact h.dk.keep.next, fun c x hx => by
    have hc : c ≠ lb := fun e => by have := h0 c x hx; have := h.lo; omega
    rw [ht.old c hc]
    exact h.dk.keep.old c x hx⟩
  refine ⟨⟨h.dk.frame (fun x y hx hy => ?_) hk (Nat.le_of_eq ht.next.symm), hb, h.off, h.lo⟩, ⟨hwf, Nat.le_of_eq ht.next.symm, fun c x hc hx => ?_, fun c hc => .inl hc⟩⟩
  · rw [ht.old x fun e => h.off (e ▸ hx)]; exact hy
  · rw [ht.old c fun e => hc (.inr e)]; exact hx
theorem P10At.of {s0 s : St} (h : P10At s0) (k : Keep s0 s) : P10At s := h.old k
theorem wsettledC_ev (hn : NoWL Sm) {s0 s : St} (h0 : s0.wf) {O : Nat → Prop} {lb b : Nat} {p : Nm} {most first last by_ rec : Nat} {q : Int} {V : Vw} {t m c : Nat} (hl : Lg s0 s O lb b p most first last by_ rec q V t m c) (ch : Bool)
    (h : ∀ s' O' c', c' ≤ c → (ch = true → c' = 0) → Mv O O' s s' → Lg s0 s' O' lb b p most first last by_ rec q V t m c' → Q (.val (.int .i64 0) s')) :
    Ev Tryz.prog Sm (.inv (.fn (.func 76) #[]) [.pointer (some ⟨lb, 0, none⟩), .bool ch] s) Q := by
  refine Ev.func hn.settled Tryz.func76 rfl (m := 12) rfl ?_
  simp only [Array.toList_empty, List.append_nil, ofList_cons, ofList_nil]
  have hb := hl.at_
  unfold LogAt at hb
  cases ch with
  | false =>
    (try first | refine EvO.nx ?_ | refine EvA.nx ?_); repeat' (first | refine Abs.go ?_ | with_reducible refine Abs.fork (fun hb => ?_) (fun hb => ?_))
    exact h s O c (Nat.le_refl _) (fun h => by cases h) (Mv.refl hl.dk.keep.wf) hl
  | true =>
    (try first | refine EvO.nx ?_ | refine EvA.nx ?_); repeat' (first | refine Abs.goH hb ?_ | with_reducible refine Abs.fork (fun hb => ?_) (fun hb => ?_))
    refine vsyncDir_ev hn.wn.disk h0 hl.dk fun s' O' mv dk => ⟨_, _, rfl, ?_⟩
    (try first | refine EvO.nx ?_ | refine EvA.nx ?_); repeat' (first | refine Abs.go ?_ | with_reducible refine Abs.fork (fun hb => ?_) (fun hb => ?_))
    exact h s' O' 0 (Nat.zero_le _) (fun _ => rfl) mv (hl.mv mv dk)
/-- the directory is synced when the log's own block has turned -/
theorem vsyncDirT_ev (n : NoDisk Sm) {s0 s s5 : St} (h0 : s0.wf) {O : Nat → Prop} {lb b : Nat} {p : Nm} {most first last by_ rec : Nat} (first' last' by_' rec' : Nat) {q : Int} {V : Vw} {t m c : Nat} (hl : Lg s0 s O lb b p most first last by_ rec q V t m c) (ht : Turned lb s s5) (hb : LogAt s5 lb b p most first' last' by_' rec')
    (h : ∀ s' O', Mw lb O O' s s' → Lg s0 s' O' lb b p most first' last' by_' rec' q V t m 0 → Q (.val (.int .i64 0) s')) :
    Ev Tryz.prog Sm (.inv (.fn (.func 62) #[]) [.pointer (some ⟨b, 0, none⟩)] s5) Q := by
  obtain ⟨hl5, mw5⟩ := hl.turn h0 ht hb
  refine vsyncDir_ev n h0 hl5.dk fun s' O' mv dk => h s' O' (mw5.trans hl.dk.keep.wf (Mw.of mv)) (hl5.mv mv dk)
attribute [local go_sem] List.set_cons_zero List.set_cons_succ
set_option maxRecDepth 20000 in
theorem wnext_ev (hn : NoWL Sm) {s0 s : St} (h0 : s0.wf) (hT : P10At s0) {O : Nat → Prop} {lb b : Nat} {p : Nm} {most first last by_ rec : Nat} {q : Int} {V : Vw} {t m c : Nat} (hl : Lg s0 s O lb b p most first last by_ rec q V t m c) (hp : PreOk p) (hla : last < 999990) (hm : m < 1000) (hc : c ≤ 1000)
    (hv : 0 < last → V (segN p last) ≠ none) (hv2 : V (segN p (last + 1)) = none)
    (h : ∀ s' O', Mw lb O O' s s' → Lg s0 s' O' lb b p most (if first = 0 then last + 1 else first) (last + 1) 0 rec q (V.next p last) t (m + 1) 0 → Q (.val (.int .i64 0) s')) :
    Ev Tryz.prog Sm (.inv (.fn (.func 77) #[]) [.pointer (some ⟨lb, 0, none⟩)] s) Q := by
  refine Ev.func hn.next Tryz.func77 rfl (m := 71) rfl ?_
  simp only [Array.toList_empty, List.append_nil, ofList_cons, ofList_nil]
  have hb := hl.at_
  unfold LogAt at hb
  have hpl := hp.len
  by_cases h1 : 0 < last
  · obtain ⟨x, hx⟩ : ∃ x, V (segN p last) = some x := by
      cases e : V (segN p last) with
      | none => exact absurd e (hv h1)
      | some x => exact ⟨x, rfl⟩
    have hV : V.next p last = (V.set (segN p last) (some ⟨x.bytes, x.bytes.length⟩)).set (segN p (last + 1)) (some ⟨[], 0⟩) := by
      unfold Vw.next Vw.sync
      rw [if_pos h1, hx]
    (try first | refine EvO.nx ?_ | refine EvA.nx ?_); repeat' (first | refine Abs.goH hb ?_ | with_reducible refine Abs.fork (fun hb => ?_) (fun hb => ?_))
    refine Abs.Ev.regionD (n := 0) (l := [.go 0, .go 1, .go 2, .go 3, .go 4, .go 5, .go 6, .go 7, .go 8, .go 9, .again 3, .go 10, .go 11]) (by kernel_rfl) ?_
    (try first | refine EvO.nx ?_ | refine EvA.nx ?_); repeat' (first | refine Abs.goH hb ?_ | with_reducible refine Abs.fork (fun hb => ?_) (fun hb => ?_))
    refine wname_ev hn.wn hl.dk.keep.wf (hT.of hl.dk.keep) hl.at_ (by omega) (by omega) fun s1 k1 => ⟨_, _, rfl, ?_⟩
    have hl1 := hl.old k1
    have hb1 := hl1.at_
    unfold LogAt at hb1
    (try first | refine EvO.nx ?_ | refine EvA.nx ?_); repeat' (first | refine Abs.goH hb1 ?_ | with_reducible refine Abs.fork (fun hb => ?_) (fun hb => ?_))
    refine vsync_ev hn.wn.disk h0 hl1.dk hx fun s2 O2 mv2 dk2 => ⟨_, _, rfl, ?_⟩
    have hl2 := hl1.mv mv2 dk2
    have hb2 := hl2.at_
    unfold LogAt at hb2
    (try first | refine EvO.nx ?_ | refine EvA.nx ?_); repeat' (first | refine Abs.goH hb2 ?_ | with_reducible refine Abs.fork (fun hb => ?_) (fun hb => ?_))
    refine Abs.Ev.regionD (n := 0) (l := [.go 0, .go 1, .go 2, .go 3, .go 4, .go 5, .go 6, .go 7, .go 8, .go 9, .go 10, .again 3, .go 11, .go 12]) (by kernel_rfl) ?_
    (try first | refine EvO.nx ?_ | refine EvA.nx ?_); repeat' (first | refine Abs.goH hb2 ?_ | with_reducible refine Abs.fork (fun hb => ?_) (fun hb => ?_))
    refine wname_ev hn.wn hl2.dk.keep.wf (hT.of hl2.dk.keep) hl2.at_ (n := last + 1) (by omega) (by omega) fun s3 k3 => ⟨_, _, rfl, ?_⟩
    have hl3 := hl2.old k3
    have hb3 := hl3.at_
    unfold LogAt at hb3
    (try first | refine EvO.nx ?_ | refine EvA.nx ?_); repeat' (first | refine Abs.goH hb3 ?_ | with_reducible refine Abs.fork (fun hb => ?_) (fun hb => ?_))
    refine vcreate_ev hn.wn.disk h0 hl3.dk (by omega) hm (good_seg hpl hp.let_ _) (by rw [Vw.off _ _ (seg_ne_seg (by omega) (by omega) (by omega))]; exact hv2) fun s4 O4 mv4 dk4 => ⟨_, _, rfl, ?_⟩
    have hl4 := hl3.mv mv4 dk4
    have hb4 := hl4.at_
    unfold LogAt at hb4
    (try first | refine EvO.nx ?_ | refine EvA.nx ?_); repeat' (first | refine Abs.goH hb4 ?_ | with_reducible refine Abs.fork (fun hb => ?_) (fun hb => ?_))
    all_goals (
      refine vsyncDirT_ev hn.wn.disk h0 (if first = 0 then last + 1 else first) (last + 1) 0 rec hl4 ⟨rfl, fun c hc => by simp only [get_other _ _ _ _ hc]⟩ ?_ fun s6 O6 mw6 hl6 => ⟨_, _, rfl, ?_⟩
      · unfold LogAt
        rw [get_same]
        first
        | (rw [if_pos (by omega)]; simp only [Int.natCast_add, Int.natCast_one]; rfl)
        | (rw [if_neg (by omega)]; simp only [Int.natCast_add, Int.natCast_one]; rfl)
      · (try first | refine EvO.nx ?_ | refine EvA.nx ?_); repeat' (first | refine Abs.go ?_ | with_reducible refine Abs.fork (fun hb => ?_) (fun hb => ?_))
        have mw : Mw lb O O6 s s6 := ((((Mw.of (Mv.ofKeep k1)).trans hl.dk.keep.wf (Mw.of mv2)).trans hl.dk.keep.wf (Mw.of (Mv.ofKeep k3))).trans hl.dk.keep.wf (Mw.of mv4)).trans hl.dk.keep.wf mw6
        rw [hV] at h
        exact h s6 O6 mw hl6)
  · have hV : V.next p last = V.set (segN p (last + 1)) (some ⟨[], 0⟩) := by
      unfold Vw.next
      rw [if_neg h1]
    (try first | refine EvO.nx ?_ | refine EvA.nx ?_); repeat' (first | refine Abs.goH hb ?_ | with_reducible refine Abs.fork (fun hb => ?_) (fun hb => ?_))
    refine Abs.Ev.regionD (n := 0) (l := [.go 0, .go 1, .go 2, .go 3, .go 4, .go 5, .go 6, .go 7, .go 8, .go 9, .go 10, .again 3, .go 11, .go 12]) (by kernel_rfl) ?_
    (try first | refine EvO.nx ?_ | refine EvA.nx ?_); repeat' (first | refine Abs.goH hb ?_ | with_reducible refine Abs.fork (fun hb => ?_) (fun hb => ?_))
    refine wname_ev hn.wn hl.dk.keep.wf (hT.of hl.dk.keep) hl.at_ (n := last + 1) (by omega) (by omega) fun s3 k3 => ⟨_, _, rfl, ?_⟩
    have hl3 := hl.old k3
    have hb3 := hl3.at_
    unfold LogAt at hb3
    (try first | refine EvO.nx ?_ | refine EvA.nx ?_); repeat' (first | refine Abs.goH hb3 ?_ | with_reducible refine Abs.fork (fun hb => ?_) (fun hb => ?_))
    refine vcreate_ev hn.wn.disk h0 hl3.dk (by omega) hm (good_seg hpl hp.let_ _) hv2 fun s4 O4 mv4 dk4 => ⟨_, _, rfl, ?_⟩
    have hl4 := hl3.mv mv4 dk4
    have hb4 := hl4.at_
    unfold LogAt at hb4
    (try first | refine EvO.nx ?_ | refine EvA.nx ?_); repeat' (first | refine Abs.goH hb4 ?_ | with_reducible refine Abs.fork (fun hb => ?_) (fun hb => ?_))
    all_goals (
      refine vsyncDirT_ev hn.wn.disk h0 (if first = 0 then last + 1 else first) (last + 1) 0 rec hl4 ⟨rfl, fun c hc => by simp only [get_other _ _ _ _ hc]⟩ ?_ fun s6 O6 mw6 hl6 => ⟨_, _, rfl, ?_⟩
      · unfold LogAt
        rw [get_same]
        first
        | (rw [if_pos (by omega)]; simp only [Int.natCast_add, Int.natCast_one]; rfl)
        | (rw [if_neg (by omega)]; simp only [Int.natCast_add, Int.natCast_one]; rfl)
      · (try first | refine EvO.nx ?_ | refine EvA.nx ?_); repeat' (first | refine Abs.go ?_ | with_reducible refine Abs.fork (fun hb => ?_) (fun hb => ?_))
        have mw : Mw lb O O6 s s6 := ((Mw.of (Mv.ofKeep k3)).trans hl.dk.keep.wf (Mw.of mv4)).trans hl.dk.keep.wf mw6
        rw [hV] at h
        exact h s6 O6 mw hl6)
theorem Lg.fin {s0 s s' : St} (h0 : s0.wf) {O : Nat → Prop} {lb b : Nat} {p : Nm} {most first last by_ rec : Nat} (first' last' by_' rec' : Nat) {q : Int} {V : Vw} {t n c : Nat} (h : Lg s0 s O lb b p most first last by_ rec q V t n c) {X : Prop} (k : Lg s0 s' O lb b p most first' last' by_' rec' q V t n c → Mw lb O O s s' → X) (ht : Turned lb s s') (hb : LogAt s' lb b p most first' last' by_' rec') : X :=
  k (h.turn h0 ht hb).1 (h.turn h0 ht hb).2
theorem Mw.to {lb : Nat} {O O' O'' : Nat → Prop} {s s' s'' : St} (h : Mw lb O O' s s') (k : Mw lb O' O'' s' s'') (hw : s.wf) : Mw lb O O'' s s'' := h.trans hw k
set_option maxRecDepth 20000 in
theorem wappend_ev (hn : NoWL Sm) {s0 s : St} (h0 : s0.wf) (hT : P10At s0) {O : Nat → Prop} {lb b : Nat} {p : Nm} {most first last by_ rec : Nat} {q : Int} {V : Vw} {t m c : Nat} (hl : Lg s0 s O lb b p most first last by_ rec q V t m c) (hc1 : c ≤ 1000) (hp : PreOk p) (hf : 0 < first) (hla : 0 < last ∧ last < 999990) (hm : m < 1000) (hq : -1000000000000 ≤ q ∧ q ≤ 9223372036854775807)
    {x : DF} (hx : V (segN p last) = some x) (hxl : x.bytes.length ≤ 140000) (hv2 : V (segN p (last + 1)) = none) {pv : Value} {l : List UInt8} (hpv : BytesB s pv l) (hll : l.length ≤ 65536) (hby9 : by_ ≤ 1000000000) (hrec : rec ≤ 1000000000)
    (hA : by_ < most → q - (t : Int) < ((8 + l.length : Nat) : Int) → ∀ s', Keep s s' → Q (.val (.int .i64 5) s'))
    (hB : by_ < most → ((8 + l.length : Nat) : Int) ≤ q - (t : Int) → ∀ s' O', Mw lb O O' s s' → Lg s0 s' O' lb b p most first last (by_ + (8 + l.length)) (rec + 1) q (V.set (segN p last) (some ⟨x.bytes ++ frameB l, x.safe⟩)) (t + (8 + l.length)) m c → Q (.val (.int .i64 0) s'))
    (hC : most ≤ by_ → q - (t : Int) < ((8 + l.length : Nat) : Int) → ∀ s' O', Mw lb O O' s s' → Lg s0 s' O' lb b p most first (last + 1) 0 rec q (V.next p last) t (m + 1) 0 → Q (.val (.int .i64 5) s'))
    (hD : most ≤ by_ → ((8 + l.length : Nat) : Int) ≤ q - (t : Int) → ∀ s' O', Mw lb O O' s s' → Lg s0 s' O' lb b p most first (last + 1) (8 + l.length) (rec + 1) q ((V.next p last).set (segN p (last + 1)) (some ⟨frameB l, 0⟩)) (t + (8 + l.length)) (m + 1) 0 → Q (.val (.int .i64 0) s')) :
    Ev Tryz.prog Sm (.inv (.fn (.func 33) #[]) [.pointer (some ⟨lb, 0, none⟩), pv] s) Q := by
  refine Ev.func hn.append Tryz.func33 rfl (m := 62) rfl ?_
  simp only [Array.toList_empty, List.append_nil, ofList_cons, ofList_nil]
  have hb := hl.at_
  unfold LogAt at hb
  have hpl := hp.len
  have hwf := hl.dk.keep.wf
  have hlb := hl.at_.lt hwf
  obtain ⟨pa, pc, rfl⟩ := hpv.1
  (try first | refine EvO.nx ?_ | refine EvA.nx ?_); repeat' (first | refine Abs.go ?_ | with_reducible refine Abs.fork (fun hb => ?_) (fun hb => ?_))
  refine fappend_ev hn.frame hn.crc hwf hpv (by omega) (fun hx => absurd hx (by omega)) (fun _ rv s1 k1 o1 => ⟨_, _, rfl, ?_⟩)
  obtain ⟨hrs, ra, rc, hrv⟩ := o1.vec.src
  subst hrv
  have hfl := frameB_len l
  have hrO : ∀ c, inBlk (.slice ra (frameB l).length rc) c → s.next ≤ c ∧ c < s1.next := fun c hc => by
    have h1 := o1.lo c (o1.room c hc)
    obtain ⟨w, hw⟩ := o1.vec.kind (o1.room c hc) o1.small
    exact ⟨h1, k1.wf _ _ hw⟩
  have hB1 : BytesB s1 (.slice ra (frameB l).length rc) (frameB l) := ⟨⟨_, _, rfl⟩, hrs⟩
  have hl1 := hl.old k1
  have hb1 := hl1.at_
  unfold LogAt at hb1
  generalize frameB l = L at *
  by_cases hbm : by_ < most
  · (try first | refine EvO.nx ?_ | refine EvA.nx ?_); repeat' (first | refine Abs.go ?_ | with_reducible refine Abs.fork (fun hb => ?_) (fun hb => ?_))
    refine Abs.Ev.regionD (n := 0) (l := [.go 0, .go 1, .go 2, .go 3, .go 4, .go 5, .go 6, .go 7, .go 8]) (by kernel_rfl) ?_
    (try first | refine EvO.nx ?_ | refine EvA.nx ?_); repeat' (first | refine Abs.goH hb1 ?_ | with_reducible refine Abs.fork (fun hb => ?_) (fun hb => ?_))
    refine Abs.Ev.regionD (n := 0) (l := [.go 0, .go 1, .go 2, .go 3, .go 4, .go 5, .go 6, .go 7, .go 8, .go 10, .go 9, .again 3, .go 11, .go 12]) (by kernel_rfl) ?_
    (try first | refine EvO.nx ?_ | refine EvA.nx ?_); repeat' (first | refine Abs.goH hb1 ?_ | with_reducible refine Abs.fork (fun hb => ?_) (fun hb => ?_))
    refine wname_ev hn.wn hl1.dk.keep.wf (hT.of hl1.dk.keep) hl1.at_ (by omega) (by omega) fun s2 k2 => ⟨_, _, rfl, ?_⟩
    have hl2 := hl1.old k2
    have hb2 := hl2.at_
    unfold LogAt at hb2
    (try first | refine EvO.nx ?_ | refine EvA.nx ?_); repeat' (first | refine Abs.goH hb2 ?_ | with_reducible refine Abs.fork (fun hb => ?_) (fun hb => ?_))
    refine vappend_ev hn.wn.disk h0 hl2.dk hq hx (hB1.mono k2.old) (fun c hc ho => by have := hl.dk.lt ho; have := (hrO c hc).1; omega) (by omega) (fun hlt => ⟨_, _, rfl, ?_⟩) (fun hle s3 O3 mv3 dk3 => ⟨_, _, rfl, ?_⟩)
    · rw [hfl] at hlt
      (try first | refine EvO.nx ?_ | refine EvA.nx ?_); repeat' (first | refine Abs.go ?_ | with_reducible refine Abs.fork (fun hb => ?_) (fun hb => ?_))
      exact hA hbm hlt _ (k1.trans k2)
    · rw [hfl] at hle
      have hl3 := hl2.mv mv3 dk3
      have hb3 := hl3.at_
      unfold LogAt at hb3
      (try first | refine EvO.nx ?_ | refine EvA.nx ?_); repeat' (first | refine Abs.goH hb3 ?_ | with_reducible refine Abs.fork (fun hb => ?_) (fun hb => ?_))
      refine Lg.fin h0 first last (by_ + (8 + l.length)) (rec + 1) (hfl ▸ hl3) (fun hl4 mw4 => hB hbm hle _ O3 ((((Mw.of (Mv.ofKeep k1)).to (Mw.of (Mv.ofKeep k2)) hwf).to (Mw.of mv3) hwf).to mw4 hwf) hl4) ⟨rfl, fun c hc => by simp only [get_other _ _ _ _ hc]⟩ ?_
      unfold LogAt
      simp only [get_same, hfl, Int.natCast_add, Int.natCast_one]
      try rfl
  · (try first | refine EvO.nx ?_ | refine EvA.nx ?_); repeat' (first | refine Abs.go ?_ | with_reducible refine Abs.fork (fun hb => ?_) (fun hb => ?_))
    refine Abs.Ev.regionD (n := 0) (l := [.go 0, .go 1, .go 2, .go 3, .go 4, .go 5, .go 6, .go 7, .go 8]) (by kernel_rfl) ?_
    (try first | refine EvO.nx ?_ | refine EvA.nx ?_); repeat' (first | refine Abs.goH hb1 ?_ | with_reducible refine Abs.fork (fun hb => ?_) (fun hb => ?_))
    have hv1 : V (segN p last) ≠ none := by rw [hx]; simp
    refine wnext_ev hn h0 hT hl1 hp hla.2 hm hc1 (fun _ => hv1) hv2 fun s2 O2 mw2 hl2 => ⟨_, _, rfl, ?_⟩
    rw [if_neg (by omega)] at hl2
    have hb2 := hl2.at_
    unfold LogAt at hb2
    have hB2 : BytesB s2 (.slice ra L.length rc) L := ⟨⟨_, _, rfl⟩, src_mono (s := s1) (fun c y hc hy => mw2.old c y (fun ho => ho.elim (fun ho => by have := hl.dk.lt ho; have := (hrO c hc).1; omega) fun e => by have := (hrO c hc).1; omega) hy) hrs⟩
    have hn2 : ∀ c, inBlk (.slice ra L.length rc) c → ¬ O2 c := fun c hc ho => (mw2.new c (.inl ho)).elim (fun ho => ho.elim (fun ho => by have := hl.dk.lt ho; have := (hrO c hc).1; omega) fun e => by have := (hrO c hc).1; omega) fun h => by have h : s1.next ≤ c := h; have := (hrO c hc).2; omega
    (try first | refine EvO.nx ?_ | refine EvA.nx ?_); repeat' (first | refine Abs.goH hb2 ?_ | with_reducible refine Abs.fork (fun hb => ?_) (fun hb => ?_))
    refine Abs.Ev.regionD (n := 0) (l := [.go 0, .go 1, .go 2, .go 3, .go 4, .go 5, .go 6, .go 7, .go 8, .go 10, .go 9, .again 3, .go 11, .go 12]) (by kernel_rfl) ?_
    (try first | refine EvO.nx ?_ | refine EvA.nx ?_); repeat' (first | refine Abs.goH hb2 ?_ | with_reducible refine Abs.fork (fun hb => ?_) (fun hb => ?_))
    refine wname_ev hn.wn hl2.dk.keep.wf (hT.of hl2.dk.keep) hl2.at_ (n := last + 1) (by omega) (by omega) fun s3 k3 => ⟨_, _, rfl, ?_⟩
    have hl3 := hl2.old k3
    have hb3 := hl3.at_
    unfold LogAt at hb3
    (try first | refine EvO.nx ?_ | refine EvA.nx ?_); repeat' (first | refine Abs.goH hb3 ?_ | with_reducible refine Abs.fork (fun hb => ?_) (fun hb => ?_))
    refine vappend_ev hn.wn.disk h0 hl3.dk hq (Vw.next_new V p last) (hB2.mono k3.old) hn2 (by simp only [List.length_nil]; omega) (fun hlt => ⟨_, _, rfl, ?_⟩) (fun hle s4 O4 mv4 dk4 => ⟨_, _, rfl, ?_⟩)
    · rw [hfl] at hlt
      (try first | refine EvO.nx ?_ | refine EvA.nx ?_); repeat' (first | refine Abs.go ?_ | with_reducible refine Abs.fork (fun hb => ?_) (fun hb => ?_))
      exact hC (by omega) hlt _ _ (((Mw.of (Mv.ofKeep k1)).to mw2 hwf).to (Mw.of (Mv.ofKeep k3)) hwf) hl3
    · rw [hfl] at hle
      rw [List.nil_append] at dk4
      have hl4 := hl3.mv mv4 dk4
      have hb4 := hl4.at_
      unfold LogAt at hb4
      (try first | refine EvO.nx ?_ | refine EvA.nx ?_); repeat' (first | refine Abs.goH hb4 ?_ | with_reducible refine Abs.fork (fun hb => ?_) (fun hb => ?_))
      refine Lg.fin h0 first (last + 1) (8 + l.length) (rec + 1) (hfl ▸ hl4) (fun hl5 mw5 => hD (by omega) hle _ O4 (((((Mw.of (Mv.ofKeep k1)).to mw2 hwf).to (Mw.of (Mv.ofKeep k3)) hwf).to (Mw.of mv4) hwf).to mw5 hwf) hl5) ⟨rfl, fun c hc => by simp only [get_other _ _ _ _ hc]⟩ ?_
      unfold LogAt
      simp only [get_same, hfl, Int.natCast_add, Int.natCast_one, show ((0 : Nat) : Int) = 0 from rfl, Int.zero_add]
      try rfl
/-- a getter of the log's -/
theorem wfirst_ev (hn : NoWL Sm) {s : St} {lb b : Nat} {p : Nm} {most first last by_ rec : Nat} (hb : LogAt s lb b p most first last by_ rec) (h : Q (.val (.int .i64 (first : Int)) s)) :
    Ev Tryz.prog Sm (.inv (.fn (.func 35) #[]) [.pointer (some ⟨lb, 0, none⟩)] s) Q := by
  refine Ev.func hn.first Tryz.func35 rfl (m := 7) rfl ?_
  simp only [Array.toList_empty, List.append_nil, ofList_cons, ofList_nil]
  unfold LogAt at hb
  (try first | refine EvO.nx ?_ | refine EvA.nx ?_); repeat' (first | refine Abs.goH hb ?_ | with_reducible refine Abs.fork (fun hb => ?_) (fun hb => ?_))
  exact h
theorem wlast_ev (hn : NoWL Sm) {s : St} {lb b : Nat} {p : Nm} {most first last by_ rec : Nat} (hb : LogAt s lb b p most first last by_ rec) (h : Q (.val (.int .i64 (last : Int)) s)) :
    Ev Tryz.prog Sm (.inv (.fn (.func 36) #[]) [.pointer (some ⟨lb, 0, none⟩)] s) Q := by
  refine Ev.func hn.last Tryz.func36 rfl (m := 7) rfl ?_
  simp only [Array.toList_empty, List.append_nil, ofList_cons, ofList_nil]
  unfold LogAt at hb
  (try first | refine EvO.nx ?_ | refine EvA.nx ?_); repeat' (first | refine Abs.goH hb ?_ | with_reducible refine Abs.fork (fun hb => ?_) (fun hb => ?_))
  exact h
theorem wrecords_ev (hn : NoWL Sm) {s : St} {lb b : Nat} {p : Nm} {most first last by_ rec : Nat} (hb : LogAt s lb b p most first last by_ rec) (h : Q (.val (.int .i64 (rec : Int)) s)) :
    Ev Tryz.prog Sm (.inv (.fn (.func 37) #[]) [.pointer (some ⟨lb, 0, none⟩)] s) Q := by
  refine Ev.func hn.records Tryz.func37 rfl (m := 7) rfl ?_
  simp only [Array.toList_empty, List.append_nil, ofList_cons, ofList_nil]
  unfold LogAt at hb
  (try first | refine EvO.nx ?_ | refine EvA.nx ?_); repeat' (first | refine Abs.goH hb ?_ | with_reducible refine Abs.fork (fun hb => ?_) (fun hb => ?_))
  exact h
end
end Go.Proofs.YtbakhdgiimjnkaaGreatDoor

/-
  wal.Open and what it uses, at the evaluator: the numbers of the segments.
-/
namespace Go.Proofs.YtbakhdgiimjnkaaGreatDoor
open Abs
set_option maxHeartbeats 16000000
set_option maxRecDepth 20000
set_option linter.unusedSimpArgs false
attribute [local irreducible] Abs.Ev Abs.EvF Abs.EvO Abs.EvA Abs.Seq Abs.Blk Abs.Body Abs.Scp Abs.EvG Abs.EvAg Abs.Nx
attribute [local go_sem] Tryz.underlying3 Ty.sz3 Ty.by3 Ty.ag3 Ty.ze3 Tryz.underlying4 Ty.sz4 Ty.by4 Ty.ag4 Ty.ze4 Tryz.underlying5 Ty.sz5 Ty.by5 Ty.ag5 Ty.ze5 Tryz.underlying9 Ty.sz9 Ty.by9 Ty.ag9 Ty.ze9 Tryz.underlying28 Ty.sz28 Ty.by28 Ty.ag28 Ty.ze28 Tryz.underlying45 Ty.sz45 Ty.by45 Ty.ag45 Ty.ze45 Tryz.underlying46 Ty.sz46 Ty.by46 Ty.ag46 Ty.ze46 Tryz.underlying96 Ty.sz96 Ty.by96 Ty.ag96 Ty.ze96 Tryz.underlying117 Ty.sz117 Ty.by117 Ty.ag117 Ty.ze117
section
variable {Sm : Summ} {Q : Ans → Prop}
def natsC (l : List Nat) : List Value := l.map fun n => .int .i64 ((n : Nat) : Int)
theorem list_at {s : St} {v : Value} {n : Nat} {vs : List Value} (h : srcCells s.heap 1 v = .ok (n, vs)) (hv : ∃ a c, v = .slice a n c) (hn : 0 < n) : ∃ b o c w, v = .slice (some ⟨b, o, none⟩) n c ∧ objCells (s.heap.get b) = .ok w ∧ vs.length = n ∧ ∀ j (hj : j < vs.length), w[o + j]? = some vs[j] := by
  obtain ⟨a, c, rfl⟩ := hv
  cases a with
  | none =>
    exfalso
    have e : (0, ([] : List Value)) = (n, vs) := Rs.ok.inj h
    have : (0 : Nat) = n := congrArg Prod.fst e
    omega
  | some q =>
    obtain ⟨b, o, sp⟩ := q
    cases sp with
    | some _ => cases h
    | none =>
      obtain ⟨w, h1, h2, h3⟩ := src_parts h
      rw [Nat.mul_one] at h2 h3
      have hl : vs.length = n := by rw [← h2, List.length_take, List.length_drop]; omega
      refine ⟨b, o, c, w, rfl, h1, hl, fun j hj => ?_⟩
      have h4 : vs[j]? = some vs[j] := List.getElem?_eq_getElem hj
      generalize vs[j] = y at *
      rw [← h2, List.getElem?_take, List.getElem?_drop, if_pos (by omega)] at h4
      exact h4
theorem keep_obj {s s' : St} (hk : ∀ b x, s.heap.get b = some x → s'.heap.get b = some x) {b : Nat} {w : List Value} (h : objCells (s.heap.get b) = .ok w) : objCells (s'.heap.get b) = .ok w := by
  cases hb : s.heap.get b with
  | none => rw [hb] at h; cases h
  | some x => rw [hb] at h; rw [hk b x hb]; exact h
set_option maxRecDepth 20000 in
theorem wnumbers_ev (hn : NoWN Sm) {s0 s : St} {O : Nat → Prop} {lb b : Nat} {p : Nm} {most first last by_ rec : Nat} {q : Int} {V : Vw} {t m c : Nat} (hd : Dk s0 s O b q V t m c) (hb : LogAt s lb b p most first last by_ rec) {a cnt : Nat} (ha : 0 < a) (hac : a + cnt ≤ 1000000) (hs : Segs V p a cnt)
    (h : ∀ v s', Keep s s' → Own s' s.next 3 1 v cnt (natsC (List.range' a cnt)) → Q (.val v s')) :
    Ev Tryz.prog Sm (.inv (.fn (.func 74) #[]) [.pointer (some ⟨lb, 0, none⟩)] s) Q := by
  refine Ev.func hn.numbers Tryz.func74 rfl (m := 28) rfl ?_
  simp only [Array.toList_empty, List.append_nil, ofList_cons, ofList_nil]
  have hb0 := hb
  unfold LogAt at hb
  have hwf := hd.keep.wf
  (try first | refine EvO.nx ?_ | refine EvA.nx ?_); repeat' (first | refine Abs.goH hb ?_ | with_reducible refine Abs.fork (fun hb => ?_) (fun hb => ?_))
  refine vlist_ev hn.disk hd fun ks lv s1 hso hkl hk64 k1 lv1 llo => ⟨_, _, rfl, ?_⟩
  have hnum := nums_segs hso hs ha hac
  obtain ⟨hsrc, la, lc, rfl⟩ := lv1.src
  have hm : m ≤ 1000 := by obtain ⟨d, F, I, _, _, _, h4, _⟩ := hd.at_; exact h4.few
  (try first | refine EvO.nx ?_ | refine EvA.nx ?_); repeat' (first | refine Abs.go ?_ | with_reducible refine Abs.fork (fun hb => ?_) (fun hb => ?_))
  have hb1 := hb0.old k1
  have hn1 := k1.next
  refine Ev.loop (fun k a' s' => ∃ T i v, a' = ⟨T, 28, []⟩ ∧ T.get 0 = some (.pointer (some ⟨lb, 0, none⟩)) ∧ T.get 3 = some v ∧ T.get 11 = some (.slice la m lc) ∧ T.get 12 = some (.int .i64 (m : Int)) ∧ T.get 13 = some (.int .i64 ((i : Nat) : Int)) ∧ i ≤ m ∧ k = m - i ∧ Keep s1 s' ∧ Own s' s1.next 3 1 v (numsOf p (ks.take i)).length (natsC (numsOf p (ks.take i)))) (k := m)
    ⟨_, 0, .slice none 0 0, rfl, ?g0, ?g3, ?g11, ?g12, ?g13, Nat.zero_le _, rfl, Keep.refl k1.wf, Own.nil⟩ ?_
  case g0 => simp (disch := first | omega | assumption) only [go_sem, ]
  case g3 => simp (disch := first | omega | assumption) only [go_sem, ]
  case g11 => simp (disch := first | omega | assumption) only [go_sem, ]
  case g12 => simp (disch := first | omega | assumption) only [go_sem, ]
  case g13 => simp (disch := first | omega | assumption) only [go_sem, ]; try rfl
  rintro k a' s' ⟨T, i, v, rfl, g0, g3, g11, g12, g13, hi, rfl, k2, o2⟩
  have hnl : (numsOf p (ks.take i)).length ≤ 1000 := by
    unfold numsOf
    refine Nat.le_trans (List.length_filter_le _ _) ?_
    rw [List.length_map, List.length_take]
    omega
  obtain ⟨_, va, vc, rfl⟩ := o2.vec.src
  by_cases hil : i < m
  · obtain ⟨kb, ko, kc, kw, e, hw, hvl, hat⟩ := list_at hsrc ⟨_, _, rfl⟩ (by omega)
    cases e
    have hik : i < ks.length := by omega
    have hvi : (valsOf ks)[i]'(by omega) = mkStr ks[i] := by unfold valsOf; rw [List.getElem_map]
    have hli := hat i (by omega)
    rw [hvi] at hli
    have hw2 := keep_obj k2.old hw
    have htk : ks.take (i + 1) = ks.take i ++ [ks[i]] := (List.take_append_getElem hik).symm
    have hk6 := hk64 _ (List.getElem_mem hik)
    have hsn := nums_snoc p (ks.take i) ks[i]
    rw [← htk] at hsn
    generalize ks[i] = nm at *
    generalize hns : numsOf p (ks.take i) = ns at *
    (try first | refine EvO.nx ?_ | refine EvA.nx ?_); repeat' (first | refine Abs.goH (Abs.cc g0 (Abs.cc g3 (Abs.cc g11 (Abs.cc g12 (Abs.cc g13 (Abs.cc hw2 (hli))))))) ?_ | with_reducible refine Abs.fork (fun hb => ?_) (fun hb => ?_))
    refine wnumber_ev hn k2.wf (hb1.old k2) (by omega) fun s3 k3 => ⟨_, _, rfl, ?_⟩
    have k23 := k2.trans k3
    have o3 := o2.mono fun b l _ hx => k3.old b _ hx
    by_cases hp : 0 < numP p nm
    · rw [if_pos hp] at hsn
      generalize numP p nm = x at *
      (try first | refine EvO.nx ?_ | refine EvA.nx ?_); repeat' (first | refine Abs.goH (Abs.cc g0 (Abs.cc g3 (Abs.cc g11 (Abs.cc g12 (g13))))) ?_ | with_reducible refine Abs.fork (fun hb => ?_) (fun hb => ?_))
      have kb := (Keep.refl k3.wf).new (.cells [.int .i64 (x : Int)] 3 0 false (0, 0))
      have k5 := k23.trans kb
      have o5 := o3.mono fun b l _ hx => kb.old b _ hx
      refine EvO.appendOwn (m := 1) (nw := [.int .i64 (x : Int)]) kb.wf Tryz.underlying45 Ty.sz3 Ty.by3 Ty.ze3 rfl (by decide) o5 k5.next ((appSrc_slice Tryz.underlying45).trans (src_cells (get_same _ _ _) rfl)) rfl rfl (by decide) (by omega) (by omega) fun v6 s6 o6 w6 n6 b6 p6 => ?_
      have k6 := k5.but w6 n6 p6 k1.wf
      (try first | refine EvO.nx ?_ | refine EvA.nx ?_); repeat' (first | refine Abs.goH (Abs.cc g0 (Abs.cc g3 (Abs.cc g11 (Abs.cc g12 (g13))))) ?_ | with_reducible refine Abs.fork (fun hb => ?_) (fun hb => ?_))
      refine ⟨m - (i + 1), by omega, _, i + 1, v6, rfl, ?_, ?_, ?_, ?_, ?_, by omega, rfl, k6, ?_⟩
      · simp (disch := first | omega | assumption) only [go_sem, g0]
      · simp (disch := first | omega | assumption) only [go_sem, ]
      · simp (disch := first | omega | assumption) only [go_sem, g11]
      · simp (disch := first | omega | assumption) only [go_sem, g12]
      · simp (disch := first | omega | assumption) only [go_sem, Int.natCast_add, Int.natCast_one]
      · rw [hsn, List.length_append, List.length_singleton]
        unfold natsC at o6 ⊢
        rw [List.map_append]
        exact o6
    · rw [if_neg hp, List.append_nil] at hsn
      have h0 : numP p nm = 0 := by omega
      rw [h0]
      (try first | refine EvO.nx ?_ | refine EvA.nx ?_); repeat' (first | refine Abs.goH (Abs.cc g0 (Abs.cc g3 (Abs.cc g11 (Abs.cc g12 (g13))))) ?_ | with_reducible refine Abs.fork (fun hb => ?_) (fun hb => ?_))
      refine ⟨m - (i + 1), by omega, _, i + 1, .slice va ns.length vc, rfl, ?_, ?_, ?_, ?_, ?_, by omega, rfl, k23, ?_⟩
      · simp (disch := first | omega | assumption) only [go_sem, g0]
      · simp (disch := first | omega | assumption) only [go_sem, g3]
      · simp (disch := first | omega | assumption) only [go_sem, g11]
      · simp (disch := first | omega | assumption) only [go_sem, g12]
      · simp (disch := first | omega | assumption) only [go_sem, Int.natCast_add, Int.natCast_one]
      · rw [hsn]
        exact o3
  · obtain rfl : i = m := by omega
    rw [List.take_of_length_le (by omega), hnum] at o2
    rw [List.length_range'] at o2
    rw [List.take_of_length_le (by omega), hnum, List.length_range'] at g3
    (try first | refine EvO.nx ?_ | refine EvA.nx ?_); repeat' (first | refine Abs.goH (Abs.cc g0 (Abs.cc g3 (Abs.cc g11 (Abs.cc g12 (g13))))) ?_ | with_reducible refine Abs.fork (fun hb => ?_) (fun hb => ?_))
    exact h _ _ (k1.trans k2) (o2.down hn1)
end
end Go.Proofs.YtbakhdgiimjnkaaGreatDoor

