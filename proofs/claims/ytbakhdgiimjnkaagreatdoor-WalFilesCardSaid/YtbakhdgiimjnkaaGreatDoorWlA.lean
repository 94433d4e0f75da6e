/-
  The evaluator and what is proved of it (several texts in one).
-/
import Derived.Test.YtbakhdgiimjnkaaGreatDoorPlA
import Derived.Test.YtbakhdgiimjnkaaGreatDoorItA
import Derived.Test.YtbakhdgiimjnkaaGreatDoorFrA
set_option linter.unusedVariables false
set_option linter.unusedSimpArgs false
/-
  Disks seen by names alone, plain: what the disk's calls do of the view. No program in sight.
-/
namespace Go.Proofs.YtbakhdgiimjnkaaGreatDoor
open Abs
noncomputable section
abbrev Vw := Nm → Option DF
open Classical in
def Vw.set (V : Vw) (nm : Nm) (x : Option DF) : Vw := fun k => if k = nm then x else V k
theorem Vw.at (V : Vw) (nm : Nm) (x : Option DF) : V.set nm x nm = x := by simp [Vw.set]
theorem Vw.off (V : Vw) {nm k : Nm} (x : Option DF) (h : k ≠ nm) : V.set nm x k = V k := by simp [Vw.set, h]
/-- a disk as its names tell it: how many bytes, how many names, at most how many changes since the safe state -/
structure Rest (d : DD) (F : Fs) (V : Vw) (t n c : Nat) : Prop where
  nodup : (akeys d.names).Nodup
  inj : (d.names.map (·.2)).Nodup
  see : ∀ nm, (aget d.names nm).map F = V nm
  tot : d.total F = t
  len : d.names.length = n
  few : n ≤ 1000
  short : ∀ k ∈ akeys d.names, k.length ≤ 64
  chgs : d.chgs.length ≤ c
  safe : c = 0 → d.safe = d.names
theorem fput_at (F : Fs) (i : Nat) (x : DF) : F.put i x i = x := by simp [Fs.put]
theorem fput_off (F : Fs) {i j : Nat} (x : DF) (h : j ≠ i) : F.put i x j = F j := by simp [Fs.put, h]
theorem snd_mem {l : Nms} {k : Nm} {f : Nat} (h : aget l k = some f) : f ∈ l.map (·.2) := List.mem_map_of_mem (f := (·.2)) (aget_mem h)
theorem sum_put_no (F : Fs) (f : Nat) (x : DF) : ∀ l : Nms, f ∉ l.map (·.2) → (l.map fun e => (F.put f x e.2).bytes.length).sum = (l.map fun e => (F e.2).bytes.length).sum
  | [], _ => rfl
  | e :: l, h => by
    rw [List.map_cons, List.mem_cons, not_or] at h
    rw [List.map_cons, List.map_cons, List.sum_cons, List.sum_cons, sum_put_no F f x l h.2, fput_off F x (Ne.symm h.1)]
theorem sum_put (F : Fs) (f : Nat) (x : DF) : ∀ l : Nms, (l.map (·.2)).Nodup → f ∈ l.map (·.2) → (l.map fun e => (F.put f x e.2).bytes.length).sum + (F f).bytes.length = (l.map fun e => (F e.2).bytes.length).sum + x.bytes.length
  | [], _, h => by cases h
  | e :: l, hn, h => by
    rw [List.map_cons, List.nodup_cons] at hn
    rw [List.map_cons, List.map_cons, List.sum_cons, List.sum_cons]
    by_cases he : e.2 = f
    · subst he
      rw [sum_put_no F _ x l hn.1, fput_at]
      omega
    · have := sum_put F f x l hn.2 ((List.mem_cons.1 h).resolve_left (Ne.symm he))
      rw [fput_off F x he]
      omega
theorem sum_del (F : Fs) (k : Nm) (f : Nat) : ∀ l : Nms, aget l k = some f → ((adel l k).map fun e => (F e.2).bytes.length).sum + (F f).bytes.length = (l.map fun e => (F e.2).bytes.length).sum ∧ (adel l k).length + 1 = l.length
  | [], h => by cases h
  | e :: l, h => by
    classical
    rw [aget_cons] at h
    show ((if k == e.1 then l else e :: adel l k).map _).sum + _ = _ ∧ (if k == e.1 then l else e :: adel l k).length + 1 = _
    by_cases he : e.1 = k
    · rw [if_pos he] at h
      cases h
      rw [if_pos (by simpa using he.symm), List.map_cons, List.sum_cons]
      exact ⟨by omega, rfl⟩
    · rw [if_neg he] at h
      obtain ⟨h1, h2⟩ := sum_del F k f l h
      rw [if_neg (by simpa using Ne.symm he), List.map_cons, List.map_cons, List.sum_cons, List.sum_cons, List.length_cons, List.length_cons]
      omega
theorem snd_del {l : Nms} {k : Nm} : ∀ {x}, x ∈ (adel l k).map (·.2) → x ∈ l.map (·.2) := by
  intro x hx
  obtain ⟨e, he, rfl⟩ := List.mem_map.1 hx
  exact List.mem_map_of_mem (f := (·.2)) (mem_adel he)
theorem inj_del : ∀ {l : Nms} {k : Nm}, (l.map (·.2)).Nodup → ((adel l k).map (·.2)).Nodup
  | [], _, h => h
  | e :: l, k, h => by
    show ((if k == e.1 then l else e :: adel l k).map _).Nodup
    rw [List.map_cons, List.nodup_cons] at h
    split
    · exact h.2
    · rw [List.map_cons, List.nodup_cons]
      exact ⟨fun hx => h.1 (snd_del hx), inj_del h.2⟩
theorem inj_key {l : Nms} (h : (l.map (·.2)).Nodup) {a b : Nm} {f : Nat} (ha : aget l a = some f) (hb : aget l b = some f) : a = b := by
  have key : ∀ l : Nms, (l.map (·.2)).Nodup → (a, f) ∈ l → (b, f) ∈ l → a = b := by
    intro l
    induction l with
    | nil => intro _ h; cases h
    | cons e l ih =>
      intro hn h1 h2
      rw [List.map_cons, List.nodup_cons] at hn
      rcases List.mem_cons.1 h1 with h1 | h1 <;> rcases List.mem_cons.1 h2 with h2 | h2
      · exact (Prod.mk.inj (h1.trans h2.symm)).1
      · exact absurd (by rw [← h1]; exact List.mem_map_of_mem (f := (·.2)) h2) hn.1
      · exact absurd (by rw [← h2]; exact List.mem_map_of_mem (f := (·.2)) h1) hn.1
      · exact ih hn.2 h1 h2
  exact key l h (aget_mem ha) (aget_mem hb)
theorem Rest.get {d : DD} {F : Fs} {V : Vw} {t n c : Nat} (h : Rest d F V t n c) {nm : Nm} {x : DF} (hx : V nm = some x) : ∃ f, aget d.names nm = some f ∧ F f = x := by
  have h1 := h.see nm
  rw [hx] at h1
  cases h2 : aget d.names nm with
  | none => rw [h2] at h1; cases h1
  | some f => rw [h2] at h1; exact ⟨f, rfl, Option.some.inj h1⟩
theorem Rest.no {d : DD} {F : Fs} {V : Vw} {t n c : Nat} (h : Rest d F V t n c) {nm : Nm} (hx : V nm = none) : aget d.names nm = none := by
  have h1 := h.see nm
  rw [hx] at h1
  cases h2 : aget d.names nm with
  | none => rfl
  | some f => rw [h2] at h1; cases h1
theorem Rest.mem {d : DD} {F : Fs} {V : Vw} {t n c : Nat} (h : Rest d F V t n c) {nm : Nm} : nm ∈ akeys d.names ↔ V nm ≠ none := by
  constructor
  · intro hm hv
    exact aget_none.1 (h.no hv) hm
  · intro hv
    refine Classical.byContradiction fun hm => hv ?_
    rw [← h.see nm, aget_none.2 hm]
    rfl
theorem Rest.new {d : DD} {F : Fs} {V : Vw} {t n c : Nat} (h : Rest d F V t n c) {nm : Nm} {g : Nat} (hv : V nm = none) (hg : ∀ e ∈ d.names, e.2 ≠ g) (hs : nm.length ≤ 64) (hn : n + 1 ≤ 1000) {d' : DD} (e1 : d'.names = aput d.names nm g) (e2 : d'.chgs.length ≤ c + 1) :
    Rest d' (F.put g ⟨[], 0⟩) (V.set nm (some ⟨[], 0⟩)) t (n + 1) (c + 1) := by
  classical
  have h0 := h.no hv
  have hk := aget_none.1 h0
  have e3 : d'.names = d.names ++ [(nm, g)] := e1.trans (aput_new hk g)
  have hg' : g ∉ d.names.map (·.2) := fun hx => by obtain ⟨e, he, e'⟩ := List.mem_map.1 hx; exact hg e he e'
  refine ⟨by rw [e1]; exact nodup_aput h.nodup _ _, ?_, fun k => ?_, ?_, by rw [e3, List.length_append, List.length_singleton, h.len], hn, fun k hk' => ?_, e2, fun hc => by omega⟩
  · rw [e3, List.map_append, List.map_singleton, List.nodup_append]
    exact ⟨h.inj, by simp, fun a ha b hb => by simp at hb; subst hb; rintro rfl; exact hg' ha⟩
  · rw [e1, aget_aput]
    by_cases hk' : nm = k
    · subst hk'
      rw [if_pos rfl, Vw.at]
      exact congrArg some (fput_at F g _)
    · rw [if_neg hk', Vw.off V _ (Ne.symm hk'), ← h.see k]
      cases h2 : aget d.names k with
      | none => rfl
      | some f => exact congrArg some (fput_off F _ fun e => hg' (e ▸ snd_mem h2))
  · unfold DD.total
    rw [e3, List.map_append, List.sum_append, sum_put_no F g _ _ hg', ← h.tot]
    show _ + (((F.put g ⟨[], 0⟩) g).bytes.length + 0) = _
    rw [fput_at]
    rfl
  · rw [e1, akeys_aput, if_neg hk, List.mem_append, List.mem_singleton] at hk'
    exact hk'.elim (h.short k) fun e => e ▸ hs
theorem Rest.put {d : DD} {F : Fs} {V : Vw} {t n c : Nat} (h : Rest d F V t n c) {nm : Nm} {f : Nat} (hf : aget d.names nm = some f) (x : DF) {t' : Nat} (ht : t' + (F f).bytes.length = t + x.bytes.length) {d' : DD} (e1 : d'.names = d.names) (e2 : d'.chgs = d.chgs) (e3 : d'.safe = d.safe) :
    Rest d' (F.put f x) (V.set nm (some x)) t' n c := by
  refine ⟨by rw [e1]; exact h.nodup, by rw [e1]; exact h.inj, fun k => ?_, ?_, by rw [e1]; exact h.len, h.few, by rw [e1]; exact h.short, by rw [e2]; exact h.chgs, fun hc => by rw [e1, e3]; exact h.safe hc⟩
  · rw [e1]
    by_cases hk : k = nm
    · subst hk
      rw [hf, Vw.at]
      exact congrArg some (fput_at F f x)
    · rw [Vw.off V _ hk, ← h.see k]
      cases h2 : aget d.names k with
      | none => rfl
      | some g => exact congrArg some (fput_off F x fun e => hk (inj_key h.inj (e ▸ h2) hf))
  · have h1 := sum_put F f x d.names h.inj (snd_mem hf)
    have h2 := h.tot
    unfold DD.total at h2 ⊢
    rw [e1]
    omega
theorem Rest.del {d : DD} {F : Fs} {V : Vw} {t n c : Nat} (h : Rest d F V t n c) {nm : Nm} {f : Nat} (hf : aget d.names nm = some f) {t' n' : Nat} (ht : t' + (F f).bytes.length = t) (hn : n' + 1 = n) {d' : DD} (e1 : d'.names = adel d.names nm) (e2 : d'.chgs.length ≤ c + 1) :
    Rest d' F (V.set nm none) t' n' (c + 1) := by
  classical
  obtain ⟨h1, h2⟩ := sum_del F nm f d.names hf
  have h3 := h.tot
  have h4 := h.len
  have h5 := h.few
  refine ⟨by rw [e1]; exact nodup_adel h.nodup _, by rw [e1]; exact inj_del h.inj, fun k => ?_, ?_, by rw [e1]; omega, by omega, fun k hk => ?_, e2, fun hc => by omega⟩
  · rw [e1, aget_adel h.nodup]
    by_cases hk : nm = k
    · subst hk
      rw [if_pos rfl, Vw.at]
      rfl
    · rw [if_neg hk, Vw.off V _ (Ne.symm hk), ← h.see k]
  · unfold DD.total at h3 ⊢
    rw [e1]
    omega
  · rw [e1, akeys_adel] at hk
    exact h.short k (List.mem_of_mem_erase hk)
/-- a file that a crash cut -/
def IsCut (f g : DF) : Prop := ∃ k, f.safe ≤ k ∧ k ≤ f.bytes.length ∧ g = ⟨f.bytes.take k, k⟩
theorem IsCut.again {f g h : DF} (h1 : IsCut f g) (h2 : IsCut g h) : IsCut f h := by
  obtain ⟨k, a, b, rfl⟩ := h1
  obtain ⟨j, c, e, rfl⟩ := h2
  simp only [List.length_take] at c e
  have : j = k := by omega
  subst this
  exact ⟨j, a, b, by rw [List.take_take, Nat.min_self]⟩
theorem IsCut.ok {f g : DF} (h1 : IsCut f g) : g.safe = g.bytes.length ∧ g.bytes.length ≤ f.bytes.length := by
  obtain ⟨k, a, b, rfl⟩ := h1
  simp only [List.length_take]
  omega
theorem cutF_cut (picks : List Int) (i : Nat) {f : DF} (h : f.safe ≤ f.bytes.length) : IsCut f (cutF picks i f) := by
  have := pickN_lt picks (i + 1) (f.bytes.length - f.safe + 1) (by omega)
  exact ⟨f.safe + pickN picks (i + 1) (f.bytes.length - f.safe + 1), by omega, by omega, rfl⟩
theorem cutFs_cut (picks : List Int) (l : Nms) : ∀ (ks : List Nm) (i : Nat) (F : Fs) (f : Nat), (F f).safe ≤ (F f).bytes.length → ((cutFs picks l ks i F) f = F f ∨ IsCut (F f) ((cutFs picks l ks i F) f)) ∧ ((∃ k ∈ ks, aget l k = some f) → IsCut (F f) ((cutFs picks l ks i F) f))
  | [], _, F, f, _ => ⟨.inl rfl, fun ⟨_, h, _⟩ => by cases h⟩
  | k :: ks, i, F, f, hs => by
    cases hk : aget l k with
    | none =>
      rw [show cutFs picks l (k :: ks) i F = cutFs picks l ks (i + 1) F by rw [cutFs, hk]]
      obtain ⟨h1, h2⟩ := cutFs_cut picks l ks (i + 1) F f hs
      refine ⟨h1, fun ⟨j, hj, e⟩ => ?_⟩
      rcases List.mem_cons.1 hj with rfl | hj
      · rw [hk] at e; cases e
      · exact h2 ⟨j, hj, e⟩
    | some g =>
      rw [show cutFs picks l (k :: ks) i F = cutFs picks l ks (i + 1) (F.put g (cutF picks i (F g))) by rw [cutFs, hk]]
      by_cases hg : f = g
      · subst hg
        have c1 := cutF_cut picks i hs
        have hs' : ((F.put f (cutF picks i (F f))) f).safe ≤ ((F.put f (cutF picks i (F f))) f).bytes.length := by rw [fput_at]; exact Nat.le_of_eq c1.ok.1
        obtain ⟨h1, _⟩ := cutFs_cut picks l ks (i + 1) (F.put f (cutF picks i (F f))) f hs'
        rw [fput_at] at h1
        have : IsCut (F f) (cutFs picks l ks (i + 1) (F.put f (cutF picks i (F f))) f) := by
          rcases h1 with h1 | h1
          · rw [h1]; exact c1
          · exact c1.again h1
        exact ⟨.inr this, fun _ => this⟩
      · obtain ⟨h1, h2⟩ := cutFs_cut picks l ks (i + 1) (F.put g (cutF picks i (F g))) f (by rw [fput_off F _ hg]; exact hs)
        rw [fput_off F _ hg] at h1 h2
        refine ⟨h1, fun ⟨j, hj, e⟩ => ?_⟩
        rcases List.mem_cons.1 hj with rfl | hj
        · rw [hk] at e; cases e; exact absurd rfl hg
        · exact h2 ⟨j, hj, e⟩
theorem Rest.crash {d : DD} {F : Fs} {V : Vw} {t n : Nat} (h : Rest d F V t n 0) (hs : ∀ e ∈ d.names, (F e.2).safe ≤ (F e.2).bytes.length) (picks : List Int) : d.kept picks = d.names ∧ ∃ V' t', Rest (d.crash picks) (d.crashF picks F) V' t' n 0 ∧ ∀ nm, (V nm = none ∧ V' nm = none) ∨ ∃ f g, V nm = some f ∧ V' nm = some g ∧ IsCut f g := by
  have hc : d.chgs = [] := List.eq_nil_of_length_eq_zero (by have := h.chgs; omega)
  have hk : d.kept picks = d.names := by
    unfold DD.kept
    rw [hc, ← h.safe rfl]
    simp
  refine ⟨hk, fun nm => (aget d.names nm).map (d.crashF picks F), (d.crash picks).total (d.crashF picks F), ⟨?_, ?_, fun nm => ?_, rfl, ?_, h.few, ?_, Nat.zero_le _, fun _ => rfl⟩, fun nm => ?_⟩
  · show (akeys (d.kept picks)).Nodup; rw [hk]; exact h.nodup
  · show ((d.kept picks).map _).Nodup; rw [hk]; exact h.inj
  · show (aget (d.kept picks) nm).map _ = _; rw [hk]
  · show (d.kept picks).length = _; rw [hk]; exact h.len
  · show ∀ k ∈ akeys (d.kept picks), _; rw [hk]; exact h.short
  · cases h2 : aget d.names nm with
    | none => exact .inl ⟨by rw [← h.see nm, h2]; rfl, by show (aget d.names nm).map _ = none; rw [h2]; rfl⟩
    | some f =>
      refine .inr ⟨F f, d.crashF picks F f, by rw [← h.see nm, h2]; rfl, by show (aget d.names nm).map _ = _; rw [h2]; rfl, ?_⟩
      unfold DD.crashF
      rw [hk]
      exact (cutFs_cut picks d.names _ 0 F f (hs (nm, f) (aget_mem h2))).2 ⟨nm, (sortB_perm _).mem_iff.2 (List.mem_map_of_mem (f := (·.1)) (aget_mem h2)), h2⟩
/-- a disk's names in order -/
structure Sorted (V : Vw) (ks : List Nm) : Prop where
  nodup : ks.Nodup
  le : ks.Pairwise fun a b => a ≤ b
  mem : ∀ nm, nm ∈ ks ↔ V nm ≠ none
theorem Rest.sorted {d : DD} {F : Fs} {V : Vw} {t n c : Nat} (h : Rest d F V t n c) : Sorted V d.keys ∧ d.keys.length = n :=
  ⟨⟨(sortB_perm _).nodup_iff.2 h.nodup, sortB_sorted _, fun nm => (sortB_perm _).mem_iff.trans h.mem⟩, by
    rw [← h.len]
    show (Abs.sortB (akeys d.names)).length = _
    rw [(sortB_perm _).length_eq]
    exact List.length_map _⟩
theorem Rest.tot_le {d : DD} {F : Fs} {V : Vw} {t n c : Nat} (h : Rest d F V t n c) (hs : ∀ e ∈ d.names, (F e.2).bytes.length ≤ 1048576) : t ≤ 1073741824 := by
  have key : ∀ l : Nms, (∀ e ∈ l, (F e.2).bytes.length ≤ 1048576) → (l.map fun e => (F e.2).bytes.length).sum ≤ l.length * 1048576 := by
    intro l
    induction l with
    | nil => intro _; exact Nat.zero_le _
    | cons e l ih =>
      intro h
      have h1 := ih fun e he => h e (List.mem_cons_of_mem _ he)
      have h2 := h e List.mem_cons_self
      rw [List.map_cons, List.sum_cons, List.length_cons]
      omega
  have h1 := key d.names hs
  have h2 := h.tot
  have h3 := h.len
  have h4 := h.few
  unfold DD.total at h2
  omega
end
end Go.Proofs.YtbakhdgiimjnkaaGreatDoor

/-
  Segments' names, plain: six digits behind a prefix; in order as their numbers are. No program in sight.
-/
namespace Go.Proofs.YtbakhdgiimjnkaaGreatDoor
open Abs
noncomputable section
def segN (p : Nm) (n : Nat) : Nm := p ++ six n
def valD (l : List UInt8) : Nat := l.foldl (fun v c => v * 10 + (c.toNat - 48)) 0
open Classical in
/-- a name's number; 0: it is no segment -/
def numP (p nm : Nm) : Nat := if p <+: nm ∧ nm.length = p.length + 6 ∧ ∀ c ∈ nm.drop p.length, c ∈ digits then valD (nm.drop p.length) else 0
theorem digits_at : ∀ c ∈ digits, 48 ≤ c.toNat ∧ c.toNat ≤ 57 := by decide
theorem dig_to (n : Nat) : (dig n).toNat = 48 + n % 10 := by
  have key : ∀ m, m < 10 → (UInt8.ofNat (48 + m)).toNat = 48 + m := by decide
  exact key _ (Nat.mod_lt _ (by decide))
theorem dig_val {c : UInt8} (h : c ∈ digits) {n : Nat} (hn : n % 10 = c.toNat - 48) : dig n = c := by
  obtain ⟨h1, h2⟩ := digits_at c h
  have := dig_to n
  exact UInt8.toNat_inj.1 (by omega)
theorem dig_digit (n : Nat) : dig n ∈ digits := by
  have key : ∀ m, m < 10 → UInt8.ofNat (48 + m) ∈ digits := by decide
  exact key _ (Nat.mod_lt _ (by decide))
theorem digit_letter : ∀ c ∈ digits, c ∈ letters := by decide
theorem six_digits (n : Nat) : ∀ c ∈ six n, c ∈ digits := by
  intro c hc
  simp only [six, List.mem_cons, List.mem_nil_iff, or_false] at hc
  rcases hc with rfl | rfl | rfl | rfl | rfl | rfl <;> exact dig_digit _
theorem six_len (n : Nat) : (six n).length = 6 := rfl
theorem valD_six {n : Nat} (h : n < 1000000) : valD (six n) = n := by
  simp only [valD, six, List.foldl_cons, List.foldl_nil, dig_to]
  omega
theorem six_valD {l : List UInt8} (h : l.length = 6) (hd : ∀ c ∈ l, c ∈ digits) : six (valD l) = l ∧ valD l < 1000000 := by
  match l, h with
  | [a, b, c, d, e, f], _ =>
    have ha := digits_at a (hd a (by simp))
    have hb := digits_at b (hd b (by simp))
    have hc := digits_at c (hd c (by simp))
    have hd' := digits_at d (hd d (by simp))
    have he := digits_at e (hd e (by simp))
    have hf := digits_at f (hd f (by simp))
    have hv : valD [a, b, c, d, e, f] = (((((a.toNat - 48) * 10 + (b.toNat - 48)) * 10 + (c.toNat - 48)) * 10 + (d.toNat - 48)) * 10 + (e.toNat - 48)) * 10 + (f.toNat - 48) := by
      simp only [valD, List.foldl_cons, List.foldl_nil, Nat.zero_mul, Nat.zero_add]
    refine ⟨?_, by omega⟩
    unfold six
    rw [hv, dig_val (hd a (by simp)) (by omega), dig_val (hd b (by simp)) (by omega), dig_val (hd c (by simp)) (by omega), dig_val (hd d (by simp)) (by omega), dig_val (hd e (by simp)) (by omega), dig_val (hd f (by simp)) (by omega)]
theorem segN_len (p : Nm) (n : Nat) : (segN p n).length = p.length + 6 := by
  unfold segN
  rw [List.length_append, six_len]
theorem numP_seg (p : Nm) {n : Nat} (h : n < 1000000) : numP p (segN p n) = n := by
  unfold numP
  have e : (segN p n).drop p.length = six n := List.drop_left
  rw [if_pos ⟨List.prefix_append _ _, segN_len p n, by rw [e]; exact six_digits n⟩, e, valD_six h]
theorem numP_pos {p nm : Nm} (h : 0 < numP p nm) : nm = segN p (numP p nm) ∧ numP p nm < 1000000 := by
  unfold numP at h ⊢
  split at h
  · rename_i hc
    obtain ⟨h1, h2, h3⟩ := hc
    rw [if_pos ⟨h1, h2, h3⟩]
    obtain ⟨e1, e2⟩ := six_valD (l := nm.drop p.length) (by rw [List.length_drop]; omega) h3
    refine ⟨?_, e2⟩
    unfold segN
    rw [e1]
    conv => lhs; rw [← List.take_append_drop p.length nm]
    rw [← List.prefix_iff_eq_take.1 h1]
  · omega
theorem segN_inj {p : Nm} {i j : Nat} (hi : i < 1000000) (hj : j < 1000000) (h : segN p i = segN p j) : i = j := by
  rw [← numP_seg p hi, h, numP_seg p hj]
theorem dig_lt {a b : Nat} (h : a % 10 < b % 10) : dig a < dig b := by
  rw [UInt8.lt_iff_toNat_lt, dig_to, dig_to]
  omega
theorem dig_eq {a b : Nat} (h : a % 10 = b % 10) : dig a = dig b := UInt8.toNat_inj.1 (by rw [dig_to, dig_to, h])
theorem six_lt {i j : Nat} (hij : i < j) (hj : j < 1000000) : six i < six j := by
  unfold six
  have step : ∀ {a b : Nat} {l m : List UInt8}, a % 10 ≤ b % 10 → (a % 10 = b % 10 → l < m) → dig a :: l < dig b :: m := fun {a b l m} h1 h2 => by
    rw [List.cons_lt_cons_iff]
    rcases Nat.lt_or_eq_of_le h1 with h | h
    · exact .inl (dig_lt h)
    · exact .inr ⟨dig_eq h, h2 h⟩
  refine step (by omega) fun h1 => step (by omega) fun h2 => step (by omega) fun h3 => step (by omega) fun h4 => step (by omega) fun h5 => ?_
  rw [List.cons_lt_cons_iff]
  exact .inl (dig_lt (by omega))
theorem app_lt (p : List UInt8) {a b : List UInt8} (h : a < b) : p ++ a < p ++ b := by
  induction p with
  | nil => exact h
  | cons x p ih => rw [List.cons_append, List.cons_append, List.cons_lt_cons_iff]; exact .inr ⟨rfl, ih⟩
theorem segN_le {p : Nm} {i j : Nat} (hi : i < 1000000) (h : segN p i ≤ segN p j) : i ≤ j := by
  refine Classical.byContradiction fun hij => ?_
  exact h (app_lt p (six_lt (by omega) hi))
/-- the numbers of the segments among names -/
def numsOf (p : Nm) (ks : List Nm) : List Nat := (ks.map (numP p)).filter fun n => decide (0 < n)
theorem nums_snoc (p : Nm) (ks : List Nm) (k : Nm) : numsOf p (ks ++ [k]) = numsOf p ks ++ if 0 < numP p k then [numP p k] else [] := by
  unfold numsOf
  rw [List.map_append, List.filter_append, List.map_singleton]
  by_cases h : 0 < numP p k
  · rw [if_pos h, List.filter_cons_of_pos (by simpa using h)]; rfl
  · rw [if_neg h, List.filter_cons_of_neg (by simpa using h)]; rfl
theorem mem_nums {p : Nm} {ks : List Nm} {n : Nat} : n ∈ numsOf p ks ↔ 0 < n ∧ ∃ k ∈ ks, numP p k = n := by
  unfold numsOf
  rw [List.mem_filter, List.mem_map, decide_eq_true_eq]
  exact And.comm
theorem nums_asc (p : Nm) : ∀ {ks : List Nm}, ks.Nodup → ks.Pairwise (fun a b => a ≤ b) → (numsOf p ks).Pairwise (· < ·)
  | [], _, _ => List.Pairwise.nil
  | k :: ks, h1, h2 => by
    obtain ⟨n1, n2⟩ := List.nodup_cons.1 h1
    obtain ⟨l1, l2⟩ := List.pairwise_cons.1 h2
    have ih := nums_asc p n2 l2
    unfold numsOf
    rw [List.map_cons]
    by_cases h : 0 < numP p k
    · rw [List.filter_cons_of_pos (by simpa using h)]
      refine List.pairwise_cons.2 ⟨fun y hy => ?_, ih⟩
      obtain ⟨y0, k', hk', rfl⟩ := mem_nums.1 hy
      obtain ⟨e1, e2⟩ := numP_pos h
      obtain ⟨e3, e4⟩ := numP_pos y0
      have hle := l1 k' hk'
      have hne : k ≠ k' := fun e => n1 (e ▸ hk')
      have h3 : numP p k ≤ numP p k' := segN_le (p := p) e2 (by rw [← e1, ← e3]; exact hle)
      have h4 : numP p k ≠ numP p k' := fun e => hne (by rw [e1, e3, e])
      omega
    · rw [List.filter_cons_of_neg (by simpa using h)]
      exact ih
theorem asc_eq : ∀ {a b : List Nat}, a.Pairwise (· < ·) → b.Pairwise (· < ·) → (∀ x, x ∈ a ↔ x ∈ b) → a = b
  | [], [], _, _, _ => rfl
  | [], y :: b, _, _, h => by have := (h y).2 (List.mem_cons_self ..); cases this
  | x :: a, [], _, _, h => by have := (h x).1 (List.mem_cons_self ..); cases this
  | x :: a, y :: b, ha, hb, h => by
    obtain ⟨a1, a2⟩ := List.pairwise_cons.1 ha
    obtain ⟨b1, b2⟩ := List.pairwise_cons.1 hb
    have hxy : x = y := by
      rcases List.mem_cons.1 ((h x).1 (List.mem_cons_self ..)) with e | e
      · exact e
      · rcases List.mem_cons.1 ((h y).2 (List.mem_cons_self ..)) with e' | e'
        · exact e'.symm
        · have := a1 y e'
          have := b1 x e
          omega
    subst hxy
    rw [asc_eq a2 b2 fun z => ⟨fun hz => ?_, fun hz => ?_⟩]
    · rcases List.mem_cons.1 ((h z).1 (List.mem_cons_of_mem _ hz)) with e | e
      · have := a1 z hz; omega
      · exact e
    · rcases List.mem_cons.1 ((h z).2 (List.mem_cons_of_mem _ hz)) with e | e
      · have := b1 z hz; omega
      · exact e
/-- a view's segments of a prefix: from a number on, so many, one behind the other -/
def Segs (V : Vw) (p : Nm) (a m : Nat) : Prop := ∀ n, 0 < n → n < 1000000 → (V (segN p n) ≠ none ↔ a ≤ n ∧ n < a + m)
theorem nums_segs {V : Vw} {ks : List Nm} {p : Nm} {a m : Nat} (hs : Sorted V ks) (hv : Segs V p a m) (ha : 0 < a) (hm : a + m ≤ 1000000) : numsOf p ks = List.range' a m := by
  refine asc_eq (nums_asc p hs.nodup hs.le) List.pairwise_lt_range' fun x => ?_
  rw [mem_nums, List.mem_range'_1]
  constructor
  · rintro ⟨h0, k, hk, rfl⟩
    obtain ⟨e1, e2⟩ := numP_pos h0
    have := (hs.mem k).1 hk
    rw [e1] at this
    exact (hv _ h0 e2).1 this
  · rintro ⟨h1, h2⟩
    exact ⟨by omega, segN p x, (hs.mem _).2 ((hv x (by omega) (by omega)).2 ⟨h1, h2⟩), numP_seg p (by omega)⟩
theorem good_seg {p : Nm} (h1 : p.length ≤ 58) (hg : ∀ c ∈ p, c ∈ letters) (n : Nat) : GoodN (segN p n) := by
  refine ⟨by rw [segN_len]; omega, by rw [segN_len]; omega, fun c hc => ?_⟩
  rcases List.mem_append.1 hc with hc | hc
  · exact hg c hc
  · exact digit_letter c (six_digits n c hc)
theorem seg_ne (p : Nm) (n : Nat) : segN p n ≠ [] := fun h => by have := congrArg List.length h; rw [segN_len] at this; simp at this
end
end Go.Proofs.YtbakhdgiimjnkaaGreatDoor

/-
  Logs, plain: frames behind one another, what is left of them when they are cut, segments and their records. No program in sight.
-/
namespace Go.Proofs.YtbakhdgiimjnkaaGreatDoor
open Abs
noncomputable section
abbrev Rec := List UInt8
def frames (ps : List Rec) : List UInt8 := (ps.map frameB).flatten
theorem frames_nil : frames [] = [] := rfl
theorem frames_cons (p : Rec) (ps : List Rec) : frames (p :: ps) = frameB p ++ frames ps := rfl
theorem scan_frame {p : Rec} (hp : p.length ≤ 65536) (x : List UInt8) : scanB (frameB p ++ x) = (p :: (scanB x).1, 8 + p.length + (scanB x).2.1, (scanB x).2.2) := scanB_frame hp (sumN_lt (le32 p.length) p) x
theorem scan_frames : ∀ {ps : List Rec}, (∀ p ∈ ps, p.length ≤ 65536) → scanB (frames ps) = (ps, (frames ps).length, 0)
  | [], _ => scanB_nil
  | p :: ps, h => by
    rw [frames_cons, scan_frame (h p (List.mem_cons_self ..)), scan_frames fun q hq => h q (List.mem_cons_of_mem _ hq), List.length_append, frameB_len]
/-- a part of a frame -/
theorem scan_part {p : Rec} (hp : p.length ≤ 65536) {n : Nat} (hn : n < 8 + p.length) : (scanB ((frameB p).take n)).1 = [] ∧ (scanB ((frameB p).take n)).2.2 ≠ 2 := by
  have hl : ((frameB p).take n).length = n := by rw [List.length_take, frameB_len]; omega
  rw [scanB_eq, hl]
  by_cases h0 : n = 0
  · rw [if_pos h0]; exact ⟨rfl, by decide⟩
  · rw [if_neg h0]
    by_cases h8 : n < 8
    · rw [if_pos h8]; exact ⟨rfl, by decide⟩
    · rw [if_neg h8]
      have e : rd32 ((frameB p).take n) = p.length := by
        have : (frameB p).take n = le32 p.length ++ ((le32 (sumN (le32 p.length) p) ++ p).take (n - 4)) := by
          unfold frameB
          rw [List.take_append, List.take_of_length_le (by rw [le32_len]; omega), le32_len]
        rw [this]
        exact rd32_le32 (by omega) _
      rw [e, if_neg (by omega), if_pos (by omega)]
      exact ⟨rfl, by decide⟩
theorem scan_cut : ∀ {ps : List Rec}, (∀ p ∈ ps, p.length ≤ 65536) → ∀ n, ∃ j, j ≤ ps.length ∧ (scanB ((frames ps).take n)).1 = ps.take j ∧ (scanB ((frames ps).take n)).2.2 ≠ 2 ∧ ∀ i, i ≤ ps.length → (frames (ps.take i)).length ≤ n → i ≤ j
  | [], _, n => ⟨0, Nat.le_refl _, by rw [frames_nil, List.take_nil, scanB_nil]; rfl, by rw [frames_nil, List.take_nil, scanB_nil]; decide, fun i hi _ => hi⟩
  | p :: ps, h, n => by
    have hp := h p (List.mem_cons_self ..)
    rw [frames_cons]
    by_cases hn : n < 8 + p.length
    · rw [List.take_append, show n - (frameB p).length = 0 by rw [frameB_len]; omega, List.take_zero, List.append_nil]
      obtain ⟨h1, h2⟩ := scan_part hp hn
      refine ⟨0, Nat.zero_le _, h1, h2, fun i hi hl => ?_⟩
      cases i with
      | zero => exact Nat.le_refl _
      | succ i =>
        rw [List.take_succ_cons, frames_cons, List.length_append, frameB_len] at hl
        omega
    · obtain ⟨j, h1, h2, h3, h4⟩ := scan_cut (fun q hq => h q (List.mem_cons_of_mem _ hq)) (n - (8 + p.length))
      rw [List.take_append, List.take_of_length_le (by rw [frameB_len]; omega), frameB_len, scan_frame hp]
      refine ⟨j + 1, by rw [List.length_cons]; omega, by rw [List.take_succ_cons, ← h2], h3, fun i hi hl => ?_⟩
      cases i with
      | zero => exact Nat.zero_le _
      | succ i =>
        rw [List.take_succ_cons, frames_cons, List.length_append, frameB_len] at hl
        rw [List.length_cons] at hi
        have := h4 i (by omega) (by omega)
        omega
theorem le32_rd32 {l : List UInt8} (h : 4 ≤ l.length) : le32 (rd32 l) = l.take 4 := by
  match l, h with
  | a :: b :: c :: d :: _, _ =>
    have := a.toNat_lt; have := b.toNat_lt; have := c.toNat_lt; have := d.toNat_lt
    show [_, _, _, _] = [a, b, c, d]
    simp only [rd32, List.cons.injEq, and_true]
    refine ⟨UInt8.toNat_inj.1 ?_, UInt8.toNat_inj.1 ?_, UInt8.toNat_inj.1 ?_, UInt8.toNat_inj.1 ?_⟩ <;> (rw [UInt8.toNat_ofNat', Nat.mod_eq_of_lt (by omega)]; omega)
/-- what a scan tells, it tells of frames; a whole one has no rest -/
theorem scan_inv : ∀ (n : Nat) (l : List UInt8), l.length ≤ n → (∀ p ∈ (scanB l).1, p.length ≤ 65536) ∧ ((scanB l).2.2 = 0 → l = frames (scanB l).1)
  | n, l, hn => by
    rw [scanB_eq]
    by_cases h0 : l.length = 0
    · rw [if_pos h0]
      exact ⟨(fun p hp => by cases hp), fun _ => List.eq_nil_of_length_eq_zero h0⟩
    rw [if_neg h0]
    by_cases h8 : l.length < 8
    · rw [if_pos h8]
      exact ⟨(fun p hp => by cases hp), (fun e => by cases e)⟩
    rw [if_neg h8]
    by_cases hb : 65536 < rd32 l
    · rw [if_pos hb]
      exact ⟨(fun p hp => by cases hp), (fun e => by cases e)⟩
    rw [if_neg hb]
    by_cases hc : l.length - 8 < rd32 l
    · rw [if_pos hc]
      exact ⟨(fun p hp => by cases hp), (fun e => by cases e)⟩
    rw [if_neg hc]
    by_cases hs : rd32 (l.drop 4) ≠ sumN (l.take 4) ((l.drop 8).take (rd32 l))
    · rw [if_pos hs]
      exact ⟨(fun p hp => by cases hp), (fun e => by cases e)⟩
    rw [if_neg hs]
    have hs' : rd32 (l.drop 4) = sumN (l.take 4) ((l.drop 8).take (rd32 l)) := Classical.byContradiction hs
    match n, hn with
    | 0, hn => omega
    | n + 1, hn =>
      obtain ⟨h1, h2⟩ := scan_inv n (l.drop (8 + rd32 l)) (by rw [List.length_drop]; omega)
      have hpl : ((l.drop 8).take (rd32 l)).length = rd32 l := by rw [List.length_take, List.length_drop]; omega
      refine ⟨fun p hp => ?_, fun e => ?_⟩
      · rcases List.mem_cons.1 hp with rfl | hp
        · omega
        · exact h1 p hp
      · have h3 := h2 e
        show l = frames ((l.drop 8).take (rd32 l) :: (scanB (l.drop (8 + rd32 l))).1)
        rw [frames_cons, ← h3]
        have e1 : frameB ((l.drop 8).take (rd32 l)) = l.take 4 ++ ((l.drop 4).take 4 ++ (l.drop 8).take (rd32 l)) := by
          unfold frameB
          rw [hpl, le32_rd32 (l := l) (by omega), ← hs', le32_rd32 (l := l.drop 4) (by rw [List.length_drop]; omega)]
        have e2 : l.drop 4 = (l.drop 4).take 4 ++ l.drop 8 := by
          conv => lhs; rw [← List.take_append_drop 4 (l.drop 4)]
          rw [List.drop_drop]
        have e3 : l.drop 8 = (l.drop 8).take (rd32 l) ++ l.drop (8 + rd32 l) := by
          conv => lhs; rw [← List.take_append_drop (rd32 l) (l.drop 8)]
          rw [List.drop_drop]
        rw [e1, List.append_assoc, List.append_assoc, ← e3, ← e2, List.take_append_drop]
/-- what one number more says -/
def updR (R : Nat → List Rec) (k : Nat) (l : List Rec) : Nat → List Rec := fun i => if i = k then l else R i
theorem updR_at (R : Nat → List Rec) (k : Nat) (l : List Rec) : updR R k l k = l := by simp [updR]
theorem updR_off (R : Nat → List Rec) {k i : Nat} (l : List Rec) (h : i ≠ k) : updR R k l i = R i := by simp [updR, h]
/-- a log as it lies, whatever became of its last segment; j: as many of that one's records are safe, if it is whole -/
structure Lt (V : Vw) (p : Nm) (a last : Nat) (R : Nat → List Rec) (j : Nat) : Prop where
  a1 : 1 ≤ a
  le : a ≤ last
  jle : j ≤ (R last).length
  segs : ∀ k, 0 < k → k < 1000000 → (V (segN p k) ≠ none ↔ a ≤ k ∧ k ≤ last)
  all : ∀ k, a ≤ k → k ≤ last → ∃ x, V (segN p k) = some x ∧ (scanB x.bytes).1 = R k ∧ (scanB x.bytes).2.2 ≠ 2 ∧ x.bytes.length ≤ 140000 ∧ (k < last → x.safe = x.bytes.length) ∧ (k = last → x.bytes = frames (R last) → x.safe = (frames ((R last).take j)).length)
/-- a log that goes on -/
structure Lw (V : Vw) (p : Nm) (a last by_ : Nat) (R : Nat → List Rec) (j : Nat) : Prop where
  lt : Lt V p a last R j
  top : V (segN p last) = some ⟨frames (R last), (frames ((R last).take j)).length⟩
  len : by_ = (frames (R last)).length
  fit : ∀ r ∈ R last, r.length ≤ 65536
theorem seg_ne_seg {p : Nm} {i k : Nat} (hi : i < 1000000) (hk : k < 1000000) (h : i ≠ k) : segN p i ≠ segN p k := fun e => h (segN_inj hi hk e)
/-- a file's bytes are safe -/
def Vw.sync (V : Vw) (nm : Nm) : Vw :=
  match V nm with
  | none => V
  | some x => V.set nm (some ⟨x.bytes, x.bytes.length⟩)
theorem Vw.sync_at {V : Vw} {nm : Nm} {x : DF} (h : V nm = some x) : V.sync nm nm = some ⟨x.bytes, x.bytes.length⟩ := by
  unfold Vw.sync
  rw [h]
  exact Vw.at _ _ _
theorem Vw.sync_off (V : Vw) {nm k : Nm} (h : k ≠ nm) : V.sync nm k = V k := by
  unfold Vw.sync
  cases V nm with
  | none => rfl
  | some x => exact Vw.off _ _ h
/-- what a log does of the disk when it goes on in a new segment -/
def Vw.next (V : Vw) (p : Nm) (last : Nat) : Vw := (if 0 < last then V.sync (segN p last) else V).set (segN p (last + 1)) (some ⟨[], 0⟩)
theorem Vw.next_new (V : Vw) (p : Nm) (last : Nat) : V.next p last (segN p (last + 1)) = some ⟨[], 0⟩ := Vw.at _ _ _
theorem Vw.next_off (V : Vw) {p : Nm} {last : Nat} {nm : Nm} (h1 : nm ≠ segN p (last + 1)) (h2 : nm ≠ segN p last) : V.next p last nm = V nm := by
  unfold Vw.next
  rw [Vw.off _ _ h1]
  split
  · exact Vw.sync_off _ h2
  · rfl
theorem Vw.next_last {V : Vw} {p : Nm} {last : Nat} (h0 : 0 < last) (hl : last + 1 < 1000000) {x : DF} (hx : V (segN p last) = some x) : V.next p last (segN p last) = some ⟨x.bytes, x.bytes.length⟩ := by
  unfold Vw.next
  rw [Vw.off _ _ (seg_ne_seg (by omega) hl (by omega)), if_pos h0]
  exact Vw.sync_at hx
theorem Lt.next {V : Vw} {p : Nm} {a last : Nat} {R : Nat → List Rec} {j : Nat} (h : Lt V p a last R j) (hl : last + 1 < 1000000) : Lw (V.next p last) p a (last + 1) 0 (updR R (last + 1) []) 0 := by
  have a1 := h.a1
  have le := h.le
  have e1 : updR R (last + 1) [] (last + 1) = [] := updR_at _ _ _
  have key : ∀ k, a ≤ k → k ≤ last → ∃ x, V.next p last (segN p k) = some x ∧ (scanB x.bytes).1 = R k ∧ (scanB x.bytes).2.2 ≠ 2 ∧ x.bytes.length ≤ 140000 ∧ x.safe = x.bytes.length := fun k h1 h2 => by
    obtain ⟨x, q1, q2, q3, q4, q5, _⟩ := h.all k h1 h2
    by_cases e : k = last
    · subst e
      exact ⟨_, Vw.next_last (by omega) hl q1, q2, q3, q4, rfl⟩
    · exact ⟨x, by rw [Vw.next_off V (seg_ne_seg (by omega) hl (by omega)) (seg_ne_seg (by omega) (by omega) e)]; exact q1, q2, q3, q4, q5 (by omega)⟩
  refine ⟨⟨a1, by omega, Nat.zero_le _, fun k k0 k6 => ?_, fun k h1 h2 => ?_⟩, ?_, ?_, ?_⟩
  · by_cases e : k = last + 1
    · subst e
      rw [Vw.next_new]
      exact ⟨fun _ => by omega, fun _ => by simp⟩
    · by_cases e2 : a ≤ k ∧ k ≤ last
      · obtain ⟨x, q1, _⟩ := key k e2.1 e2.2
        rw [q1]
        exact ⟨fun _ => by omega, fun _ => by simp⟩
      · rw [Vw.next_off V (seg_ne_seg k6 hl e) (seg_ne_seg k6 (by omega) (fun e' => e2 (by omega))), h.segs k k0 k6]
        omega
  · by_cases e : k = last + 1
    · subst e
      rw [e1]
      exact ⟨_, Vw.next_new V p last, by rw [scanB_nil], by rw [scanB_nil]; decide, Nat.zero_le _, fun h => by omega, fun _ _ => rfl⟩
    · obtain ⟨x, q1, q2, q3, q4, q5⟩ := key k h1 (by omega)
      exact ⟨x, q1, by rw [updR_off R [] e]; exact q2, q3, q4, fun _ => q5, fun h => absurd h e⟩
  · rw [e1]
    exact Vw.next_new V p last
  · rw [e1]; rfl
  · rw [e1]; exact fun r hr => by cases hr
theorem Lw.put {V : Vw} {p : Nm} {a last by_ : Nat} {R : Nat → List Rec} {j : Nat} (h : Lw V p a last by_ R j) (hl : last < 1000000) {l : List Rec} (hr : ∀ r ∈ l, r.length ≤ 65536) (hlen : (frames (R last ++ l)).length ≤ 140000) {i : Nat} (hi : i ≤ (R last ++ l).length) :
    Lw (V.set (segN p last) (some ⟨frames (R last ++ l), (frames ((R last ++ l).take i)).length⟩)) p a last (frames (R last ++ l)).length (updR R last (R last ++ l)) i := by
  have a1 := h.lt.a1
  have le := h.lt.le
  have e1 : updR R last (R last ++ l) last = R last ++ l := updR_at _ _ _
  have fit : ∀ r ∈ R last ++ l, r.length ≤ 65536 := fun r hr' => (List.mem_append.1 hr').elim (h.fit r) (hr r)
  refine ⟨⟨a1, le, by rw [e1]; exact hi, fun k k0 k6 => ?_, fun k h1 h2 => ?_⟩, by rw [e1]; exact Vw.at _ _ _, by rw [e1], by rw [e1]; exact fit⟩
  · by_cases e : k = last
    · subst e
      rw [Vw.at]
      exact ⟨fun _ => ⟨le, Nat.le_refl _⟩, fun _ => by simp⟩
    · rw [Vw.off _ _ (seg_ne_seg k6 hl e), h.lt.segs k k0 k6]
  · by_cases e : k = last
    · subst e
      rw [e1]
      refine ⟨_, Vw.at _ _ _, ?_, ?_, hlen, fun h => by omega, fun _ _ => rfl⟩
      · show (scanB (frames _)).1 = _
        rw [scan_frames fit]
      · show (scanB (frames _)).2.2 ≠ 2
        rw [scan_frames fit]
        exact (by decide : (0 : Nat) ≠ 2)
    · obtain ⟨x, q1, q2, q3, q4, q5, q6⟩ := h.lt.all k h1 h2
      exact ⟨x, by rw [Vw.off _ _ (seg_ne_seg (by omega) hl e)]; exact q1, by rw [updR_off R _ e]; exact q2, q3, q4, q5, fun h => absurd h e⟩
theorem Lt.go {V : Vw} {p : Nm} {a last : Nat} {R : Nat → List Rec} {j : Nat} (h : Lt V p a last R j) {x : DF} (hx : V (segN p last) = some x) (hs : (scanB x.bytes).2.2 = 0) : Lw V p a last x.bytes.length R j := by
  obtain ⟨y, q1, q2, q3, q4, q5, q6⟩ := h.all last h.le (Nat.le_refl _)
  rw [hx] at q1
  obtain rfl : x = y := Option.some.inj q1
  obtain ⟨i1, i2⟩ := scan_inv _ x.bytes (Nat.le_refl _)
  have i3 := i2 hs
  rw [q2] at i1 i3
  refine ⟨h, ?_, by rw [← i3], i1⟩
  rw [hx]
  have := q6 rfl i3
  obtain ⟨xb, xs⟩ := x
  simp only at i3 this
  rw [i3, this]
theorem Lw.crash {V V' : Vw} {p : Nm} {a last by_ : Nat} {R : Nat → List Rec} {j : Nat} (h : Lw V p a last by_ R j) (hc : ∀ nm, (V nm = none ∧ V' nm = none) ∨ ∃ f g, V nm = some f ∧ V' nm = some g ∧ IsCut f g) :
    ∃ i, j ≤ i ∧ i ≤ (R last).length ∧ Lt V' p a last (updR R last ((R last).take i)) i := by
  have le := h.lt.le
  have ht := h.top
  obtain ⟨g, g1, n, g2, g3, g4⟩ : ∃ g, V' (segN p last) = some g ∧ ∃ n, (frames ((R last).take j)).length ≤ n ∧ n ≤ (frames (R last)).length ∧ g = ⟨(frames (R last)).take n, n⟩ := by
    rcases hc (segN p last) with ⟨e, _⟩ | ⟨f, g, e1, e2, n, k1, k2, k3⟩
    · rw [ht] at e; cases e
    · rw [ht] at e1
      cases e1
      exact ⟨g, e2, n, k1, k2, k3⟩
  obtain ⟨i, i1, i2, i3, i4⟩ := scan_cut h.fit n
  have e1 : updR R last ((R last).take i) last = (R last).take i := updR_at _ _ _
  have hlen : ((frames (R last)).take n).length = n := by rw [List.length_take]; omega
  refine ⟨i, i4 j h.lt.jle g2, i1, h.lt.a1, le, by rw [e1, List.length_take]; omega, fun k k0 k6 => ?_, fun k h1 h2 => ?_⟩
  · rw [← h.lt.segs k k0 k6]
    rcases hc (segN p k) with ⟨e, e'⟩ | ⟨f, g, e1, e2, _⟩
    · rw [e, e']
    · rw [e1, e2]; simp
  · by_cases e : k = last
    · subst e
      rw [e1]
      obtain ⟨y, q1, _, _, q4, _⟩ := h.lt.all k h1 h2
      rw [ht] at q1
      obtain rfl := Option.some.inj q1
      simp only at q4
      refine ⟨g, g1, by rw [g4]; exact i2, by rw [g4]; exact i3, by rw [g4]; show ((frames (R k)).take n).length ≤ _; omega, fun h => by omega, fun _ hb => ?_⟩
      rw [List.take_take, Nat.min_self, ← hb, g4]
      exact hlen.symm
    · obtain ⟨x, q1, q2, q3, q4, q5, q6⟩ := h.lt.all k h1 h2
      rcases hc (segN p k) with ⟨e', _⟩ | ⟨f, g', e1', e2, m, k1, k2, k3⟩
      · rw [q1] at e'; cases e'
      · rw [q1] at e1'
        obtain rfl := Option.some.inj e1'
        have hx := q5 (by omega)
        have hm : m = x.bytes.length := by omega
        have hg : g' = x := by
          rw [k3, hm, List.take_length]
          obtain ⟨xb, xs⟩ := x
          simp only at hx
          rw [hx]
        rw [hg] at e2
        exact ⟨x, e2, by rw [updR_off R _ e]; exact q2, q3, q4, q5, fun h => absurd h e⟩
end
end Go.Proofs.YtbakhdgiimjnkaaGreatDoor

