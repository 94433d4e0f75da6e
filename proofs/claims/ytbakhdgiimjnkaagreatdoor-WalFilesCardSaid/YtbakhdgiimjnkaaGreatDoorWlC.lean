/-
  The evaluator and what is proved of it (several texts in one).
-/
import Derived.Test.YtbakhdgiimjnkaaGreatDoorWOpen2
import Derived.Test.YtbakhdgiimjnkaaGreatDoorEvSet
set_option linter.unusedVariables false
set_option linter.unusedSimpArgs false
/-
  Walks in which an operation's guard may be an operation that was left out. No law in sight.
-/
namespace Go.Proofs.YtbakhdgiimjnkaaGreatDoor
open Abs
section
variable {Sm : Summ} {Q : Ans → Prop}
end
end Go.Proofs.YtbakhdgiimjnkaaGreatDoor

/-
  wal at the evaluator, as logs' records: what Open and Append do of them.
-/
namespace Go.Proofs.YtbakhdgiimjnkaaGreatDoor
open Abs
section
variable {Sm : Summ} {Q : Ans → Prop}
theorem Lt.at {V : Vw} {p : Nm} {a last : Nat} {R : Nat → List Rec} {j : Nat} (h : Lt V p a last R j) {k : Nat} (h1 : a ≤ k) (h2 : k ≤ last) : recV V p k = R k ∧ stV V p k ≠ 2 := by
  obtain ⟨x, q1, q2, q3, _⟩ := h.all k h1 h2
  unfold recV stV
  rw [q1]
  exact ⟨q2, q3⟩
theorem Gone.all {V V1 : Vw} {p : Nm} {i : Nat} (h : Gone V p i i V1) : V1 = V := funext fun nm => h.2 nm fun k a b => by omega
theorem Lw.first {V : Vw} {p : Nm} (h : ∀ k, 0 < k → k < 1000000 → V (segN p k) = none) : Lw (V.next p 0) p 1 1 0 (fun _ => []) 0 := by
  have e0 := Vw.next_new V p 0
  refine ⟨⟨Nat.le_refl _, Nat.le_refl _, Nat.zero_le _, fun k k0 k6 => ?_, fun k h1 h2 => ?_⟩, e0, rfl, fun r hr => by cases hr⟩
  · by_cases e : k = 0 + 1
    · rw [e, e0]
      exact ⟨fun _ => by omega, fun _ => by simp⟩
    · unfold Vw.next
      rw [if_neg (Nat.lt_irrefl _), Vw.off _ _ (seg_ne_seg k6 (by omega) e), h k k0 k6]
      exact ⟨fun h => absurd rfl h, fun h => by omega⟩
  · obtain rfl : k = 0 + 1 := by omega
    exact ⟨_, e0, by rw [scanB_nil], by rw [scanB_nil]; decide, Nat.zero_le _, fun h => by omega, fun _ _ => rfl⟩
theorem Lg.frame {s0 s s' : St} (h0 : s0.wf) {O : Nat → Prop} {lb b : Nat} {p : Nm} {most first last by_ rec : Nat} {q : Int} {V : Vw} {t n c : Nat} (h : Lg s0 s O lb b p most first last by_ rec q V t n c) (hw : s'.wf) (hn : s.next ≤ s'.next) (hk : ∀ x y, (O x ∨ x = lb ∨ x < s0.next) → s.heap.get x = some y → s'.heap.get x = some y) : Lg s0 s' O lb b p most first last by_ rec q V t n c :=
  ⟨h.dk.frame (fun x y hx hy => hk x y (.inl hx) hy) ⟨hw, Nat.le_trans h.dk.keep.next hn, fun x y hx => hk x y (.inr (.inr (h0 x y hx))) (h.dk.keep.old x y hx)⟩ hn, hk _ _ (.inr (.inl rfl)) h.at_, h.off, h.lo⟩
end
end Go.Proofs.YtbakhdgiimjnkaaGreatDoor

/-
  wal's laws: are the first records those? At the evaluator.
-/
namespace Go.Proofs.YtbakhdgiimjnkaaGreatDoor
open Abs
set_option maxHeartbeats 16000000
set_option maxRecDepth 20000
set_option linter.unusedSimpArgs false
attribute [local irreducible] Abs.Ev Abs.EvF Abs.EvO Abs.EvA Abs.Seq Abs.Blk Abs.Body Abs.Scp Abs.EvG Abs.EvAg Abs.Nx
attribute [local go_sem] Tryz.underlying3 Ty.sz3 Ty.by3 Ty.ag3 Ty.ze3 Tryz.underlying4 Ty.sz4 Ty.by4 Ty.ag4 Ty.ze4 Tryz.underlying5 Ty.sz5 Ty.by5 Ty.ag5 Ty.ze5 Tryz.underlying9 Ty.sz9 Ty.by9 Ty.ag9 Ty.ze9 Tryz.underlying28 Ty.sz28 Ty.by28 Ty.ag28 Ty.ze28 Tryz.underlying59 Ty.sz59 Ty.by59 Ty.ag59 Ty.ze59 Tryz.underlying96 Ty.sz96 Ty.by96 Ty.ag96 Ty.ze96 Tryz.underlying117 Ty.sz117 Ty.by117 Ty.ag117 Ty.ze117
section
variable {Sm : Summ} {Q : Ans → Prop}
/-- texts of bytes that may be read -/
def Texts (s : St) (v : Value) (ps : List Rec) : Prop := ∃ vs, srcCells s.heap 1 v = .ok (ps.length, vs) ∧ (∃ a c, v = .slice a ps.length c) ∧ AllB s vs ps
theorem RecsO.texts {s : St} {O : Nat → Prop} {v : Value} {ps : List Rec} (h : RecsO s O v ps) : Texts s v ps := by
  obtain ⟨vs, h1, h2, _⟩ := h.ex
  exact ⟨vs, h1.src.1, h1.src.2, h2⟩
theorem Texts.mono {s s' : St} {v : Value} {ps : List Rec} (hk : ∀ b x, s.heap.get b = some x → s'.heap.get b = some x) (h : Texts s v ps) : Texts s' v ps := by
  obtain ⟨vs, h1, h2, h3⟩ := h
  exact ⟨vs, srcCells_mono hk h1, h2, h3.1, fun i w l e1 e2 => (h3.2 i w l e1 e2).mono hk⟩
theorem bytes_cases {s : St} {x : Value} {l : List UInt8} {C : Prop} (h : BytesB s x l) (k1 : ∀ c, l = [] → x = .slice none 0 c → C)
    (k2 : ∀ b o c w e sz op fz, x = .slice (some ⟨b, o, none⟩) l.length c → s.heap.get b = some (.cells w e sz op fz) → (cutN w o l.length).bind cellBytes = some l → C)
    (k3 : ∀ b o c w e, x = .slice (some ⟨b, o, none⟩) l.length c → s.heap.get b = some (.const w e) → (cutN w o l.length).bind cellBytes = some l → C) : C := by
  obtain ⟨⟨a, c, rfl⟩, h2⟩ := h
  cases a with
  | none =>
    have e : (0, ([] : List Value)) = (l.length, byteCells l) := Rs.ok.inj h2
    have e1 : l = [] := List.eq_nil_of_length_eq_zero (congrArg Prod.fst e).symm
    subst e1
    exact k1 c rfl rfl
  | some q =>
    obtain ⟨b, o, sp⟩ := q
    cases sp with
    | some _ => cases h2
    | none =>
      obtain ⟨w, h3, h4, h5⟩ := src_parts h2
      rw [Nat.mul_one] at h4 h5
      have hc : (cutN w o l.length).bind cellBytes = some l := by
        rw [cutN_eq, if_pos h5, h4]
        exact cellBytes_byteCells l
      cases hg : s.heap.get b with
      | none => rw [hg] at h3; cases h3
      | some y =>
        rw [hg] at h3
        cases y with
        | cells w' e sz op fz =>
          obtain rfl : w' = w := Rs.ok.inj h3
          exact k2 b o c w' e sz op fz rfl hg hc
        | const w' e =>
          obtain rfl : w' = w := Rs.ok.inj h3
          exact k3 b o c w' e rfl hg hc
        | _ => cases h3
end
end Go.Proofs.YtbakhdgiimjnkaaGreatDoor

/-
  The law WalAgain at the evaluator: it says true.
-/
namespace Go.Proofs.YtbakhdgiimjnkaaGreatDoor
open Abs
set_option maxHeartbeats 16000000
set_option maxRecDepth 20000
set_option linter.unusedSimpArgs false
attribute [local irreducible] Abs.Ev Abs.EvF Abs.EvO Abs.EvA Abs.Seq Abs.Blk Abs.Body Abs.Scp Abs.EvG Abs.EvAg Abs.Nx
attribute [local go_sem] Tryz.underlying3 Ty.sz3 Ty.by3 Ty.ag3 Ty.ze3 Tryz.underlying4 Ty.sz4 Ty.by4 Ty.ag4 Ty.ze4 Tryz.underlying5 Ty.sz5 Ty.by5 Ty.ag5 Ty.ze5 Tryz.underlying9 Ty.sz9 Ty.by9 Ty.ag9 Ty.ze9 Tryz.underlying28 Ty.sz28 Ty.by28 Ty.ag28 Ty.ze28 Tryz.underlying59 Ty.sz59 Ty.by59 Ty.ag59 Ty.ze59 Tryz.underlying96 Ty.sz96 Ty.by96 Ty.ag96 Ty.ze96 Tryz.underlying117 Ty.sz117 Ty.by117 Ty.ag117 Ty.ze117
section
variable {Sm : Summ} {Q : Ans → Prop}
/-- records among the arguments, put together apart from a disk -/
structure Lst (s0 s : St) (O : Nat → Prop) (v : Value) (ps : List Rec) : Prop where
  ex : ∃ vs, Vec s 28 1 v ps.length vs ∧ AllB s vs ps ∧ ∀ w ∈ vs, ∀ c, inBlk w c → c < s0.next
  room : ∀ c, inBlk v c → inRoom v c ∧ ¬ O c ∧ s0.next ≤ c
theorem Lst.nil (s0 s : St) (O : Nat → Prop) : Lst s0 s O (.slice none 0 0) [] :=
  ⟨⟨[], .nil, ⟨rfl, fun i w l e => by simp at e⟩, fun w hw => by cases hw⟩, fun c hc => by obtain ⟨_, _, _, e⟩ := hc; cases e⟩
theorem Lst.texts {s0 s : St} {O : Nat → Prop} {v : Value} {ps : List Rec} (h : Lst s0 s O v ps) : Texts s v ps := by
  obtain ⟨vs, h1, h2, _⟩ := h.ex
  exact ⟨vs, h1.src.1, h1.src.2, h2⟩
theorem Lst.mv {s0 s s' : St} {O O' : Nat → Prop} {v : Value} {ps : List Rec} (h : Lst s0 s O v ps) (hwf : s.wf) (hO : ∀ c, O c → s0.next ≤ c) (hn : ps.length < open_) (mv : Mv O O' s s') : Lst s0 s' O' v ps := by
  obtain ⟨vs, h1, h2, h3⟩ := h.ex
  refine ⟨⟨vs, h1.mono fun b x hb hx => mv.old b x (h.room b hb).2.1 hx, ⟨h2.1, fun i w l e1 e2 => (h2.2 i w l e1 e2).src fun b x hb hx => mv.old b x (fun ho => ?_) hx⟩, h3⟩, fun c hc => ⟨(h.room c hc).1, ?_, (h.room c hc).2.2⟩⟩
  · have := h3 w (List.mem_of_getElem? e1) b hb
    have := hO b ho
    omega
  · obtain ⟨l, hl⟩ := h1.kind (h.room c hc).1 hn
    exact mv.off hwf hl (h.room c hc).2.1
theorem Lst.or {s0 s : St} {O : Nat → Prop} {v : Value} {ps : List Rec} (h : Lst s0 s O v ps) {lb : Nat} (hne : ∀ c, inBlk v c → c ≠ lb) : Lst s0 s (fun c => O c ∨ c = lb) v ps :=
  ⟨h.ex, fun c hc => ⟨(h.room c hc).1, fun ho => ho.elim (h.room c hc).2.1 (hne c hc), (h.room c hc).2.2⟩⟩
theorem Lst.less {s0 s : St} {O O' : Nat → Prop} {v : Value} {ps : List Rec} (h : Lst s0 s O v ps) (hO : ∀ c, O' c → O c) : Lst s0 s O' v ps :=
  ⟨h.ex, fun c hc => ⟨(h.room c hc).1, fun ho => (h.room c hc).2.1 (hO c ho), (h.room c hc).2.2⟩⟩
theorem Lst.lt {s0 s : St} {O : Nat → Prop} {v : Value} {ps : List Rec} (h : Lst s0 s O v ps) (hwf : s.wf) (hn : ps.length < open_) : ∀ c, inBlk v c → c < s.next := fun c hc => by
  obtain ⟨vs, h1, _⟩ := h.ex
  obtain ⟨l, hl⟩ := h1.kind (h.room c hc).1 hn
  exact hwf _ _ hl
end
end Go.Proofs.YtbakhdgiimjnkaaGreatDoor

/-
  The law WalTwo at the evaluator: it says true.
-/
namespace Go.Proofs.YtbakhdgiimjnkaaGreatDoor
open Abs
set_option maxHeartbeats 16000000
set_option maxRecDepth 20000
set_option linter.unusedSimpArgs false
attribute [local irreducible] Abs.Ev Abs.EvF Abs.EvO Abs.EvA Abs.Seq Abs.Blk Abs.Body Abs.Scp Abs.EvG Abs.EvAg Abs.Nx
attribute [local go_sem] Tryz.underlying3 Ty.sz3 Ty.by3 Ty.ag3 Ty.ze3 Tryz.underlying4 Ty.sz4 Ty.by4 Ty.ag4 Ty.ze4 Tryz.underlying5 Ty.sz5 Ty.by5 Ty.ag5 Ty.ze5 Tryz.underlying9 Ty.sz9 Ty.by9 Ty.ag9 Ty.ze9 Tryz.underlying28 Ty.sz28 Ty.by28 Ty.ag28 Ty.ze28 Tryz.underlying59 Ty.sz59 Ty.by59 Ty.ag59 Ty.ze59 Tryz.underlying96 Ty.sz96 Ty.by96 Ty.ag96 Ty.ze96 Tryz.underlying117 Ty.sz117 Ty.by117 Ty.ag117 Ty.ze117
section
variable {Sm : Summ} {Q : Ans → Prop}
def preB : Nm := [98, 45]
theorem Lt.cong {V V' : Vw} {p : Nm} {a last : Nat} {R : Nat → List Rec} {j : Nat} (h : Lt V p a last R j) (hV : ∀ k, V' (segN p k) = V (segN p k)) : Lt V' p a last R j :=
  ⟨h.a1, h.le, h.jle, fun k k0 k6 => by rw [hV]; exact h.segs k k0 k6, fun k h1 h2 => by rw [hV]; exact h.all k h1 h2⟩
theorem Lw.cong {V V' : Vw} {p : Nm} {a last by_ : Nat} {R : Nat → List Rec} {j : Nat} (h : Lw V p a last by_ R j) (hV : ∀ k, V' (segN p k) = V (segN p k)) : Lw V' p a last by_ R j :=
  ⟨h.lt.cong hV, by rw [hV]; exact h.top, h.len, h.fit⟩
theorem Lg.other {s0 s s' : St} {O O' : Nat → Prop} {lx ly b : Nat} {p : Nm} {most first last by_ rec : Nat} {q q' : Int} {V V' : Vw} {t t' n n' c c' : Nat} (h : Lg s0 s O ly b p most first last by_ rec q V t n c) (hne : ly ≠ lx) (mw : Mw lx O O' s s') (hd : Dk s0 s' O' b q' V' t' n' c') : Lg s0 s' O' ly b p most first last by_ rec q' V' t' n' c' :=
  have h1 : ¬ (O ly ∨ ly = lx) := fun h' => h'.elim h.off hne
  ⟨hd, mw.old ly _ h1 h.at_, fun h' => mw.off h.dk.keep.wf h.at_ h1 (.inl h'), h.lo⟩
theorem Lw.synced {V : Vw} {p : Nm} {a last by_ : Nat} {R : Nat → List Rec} {j : Nat} (h : Lw V p a last by_ R j) (hl : last < 1000000) : Lw (V.set (segN p last) (some ⟨frames (R last), (frames (R last)).length⟩)) p a last by_ R (R last).length := by
  obtain ⟨x, x1, _, _, x4, _⟩ := h.lt.all last h.lt.le (Nat.le_refl _)
  rw [h.top] at x1
  obtain rfl := Option.some.inj x1
  have h1 := h.put (l := []) (i := (R last).length) hl (fun r hr => by cases hr) (by rw [List.append_nil]; exact x4) (by rw [List.append_nil]; exact Nat.le_refl _)
  have e : updR R last (R last) = R := by
    funext k
    unfold updR
    split
    · rename_i h; rw [h]
    · rfl
  rw [List.append_nil, List.take_length, e] at h1
  rw [h.len]
  exact h1
theorem RecsO.less {s : St} {O O' : Nat → Prop} {v : Value} {ps : List Rec} (h : RecsO s O v ps) (hO : ∀ c, O' c → O c) : RecsO s O' v ps := by
  obtain ⟨vs, h1, h2, h3⟩ := h.ex
  exact ⟨⟨vs, h1, h2, fun w hw c hc => ⟨fun ho => (h3 w hw c hc).1 (hO c ho), (h3 w hw c hc).2⟩⟩, fun c hc => ⟨(h.room c hc).1, fun ho => (h.room c hc).2 (hO c ho)⟩, h.small⟩
end
end Go.Proofs.YtbakhdgiimjnkaaGreatDoor

