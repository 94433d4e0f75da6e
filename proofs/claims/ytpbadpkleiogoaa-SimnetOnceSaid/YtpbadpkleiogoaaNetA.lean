/-
  The walks of package simnet: what each function does to a network in memory.
-/
import Derived.Test.YtpbadpkleiogoaaProg
import Derived.Test.YtpbadpkleiogoaaConv
import Derived.Outline
import Derived.Deep.DeepCutAuto
import Derived.Deep.RegionHeld3
import Derived.Deep.RegionLaw
import Derived.Deep.DrawnRows
namespace Go.Proofs.Ytpbadpkleiogoaa
open Go.RowKit
attribute [local go_sem ↓] Go.wp_at_zero Go.wp_at_succ

theorem Net.info_byte : (Try.prog.info? 5).map (fun i => (i.zero, i.size, i.bytes)) = some (some (.int .u8 0), 1, 1) := by kernel_rfl

def FreshSl (w : World) (E : TypeId) (size n : Nat) (xs : List Value) (e : Ending) (w' : World) : Prop :=
  ∃ v', e = .returned v' ∧ Sl w' E size v' n xs ∧ Mod (fun _ => False) w w' ∧ ∀ b, v'.ownBlock = some b → w.heap.size ≤ b

set_option maxHeartbeats 1000000 in
theorem clone_any (v : Value) (n : Nat) (bs : List UInt8) (w : World) (hn : n ≤ 140737488355328) (h : Src Try.prog w 1 45 v n (bcells bs)) (hv : ∃ A c, v = .slice A n c) :
    Calls Try.prog 42 #[v] w (FreshSl w 5 1 n (bcells bs)) := by
  obtain ⟨A, c, rfl⟩ := hv
  obtain ⟨i0, hi, hz0, hz1, hz2⟩ := info_parts Net.info_byte
  have hw0 : n ≤ maxLen := by unfold maxLen; omega
  have q0 := fun W => Lib.run_eql_slice_nil (P := Try.prog) W 45 5 A n c 0 0 Try.underlying45
  cases A with
  | none =>
    obtain ⟨hl, _, hs⟩ := h
    have hn0 : n = 0 := by rcases hs with ⟨_, _, _, _, h⟩ | ⟨_, _, _, _, h, _⟩ | ⟨_, _, _, h, _⟩ <;> first | exact h | cases h
    subst hn0
    obtain rfl : bs = [] := List.eq_nil_of_length_eq_zero (by simpa [bcells] using hl)
    go_enter Try.func42, Try.ntmps42
    go_wp2
    go_ret
    exact ⟨_, rfl, Sl.nil _ _ _, Mod.refl _ _, fun b h => by cases h⟩
  | some a =>
    go_enter Try.func42, Try.ntmps42
    go_wp2_with (at_builtin; refine wpList_append_sl rfl (.tmp 5) (.tmp 6) 45 45 rfl 5 i0 (.int .u8 0) 1 1 Try.underlying45 hi hz0 hz1 hz2 rfl _ 0 [] rfl (Sl.new w 5 1 0 [] rfl (by unfold maxLen; omega)) _ n (bcells bs) rfl ?c1 ?c2 ?c3 ?_)
    case c1 => exact h.alloc _
    case c2 => omega
    case c3 => omega
    rintro v' w' ⟨h1, h2, h3, _⟩
    go_wp2
    go_ret
    refine ⟨v', rfl, by simpa using h1, ?_, ?_⟩
    · exact ((Mod.refl (fun _ => False) w).alloc _).trans h2 (fun b hb e => by simp [Value.ownBlock] at e; omega)
    · intro b hb
      rcases h3 with h3 | h3 <;> (rw [h3] at hb; simp [Value.ownBlock] at hb; omega)

/-- a packet -/
structure Pk where
  id : Int
  fr : Int
  dst : Int
  b : List UInt8

/-- a packet's cells, its bytes' slice value beside it -/
def pkc (x : Pk × Value) : List Value := [.int .i64 x.1.id, .int .i64 x.1.fr, .int .i64 x.1.dst, x.2]
theorem pkc_len (x : Pk × Value) : (pkc x).length = 4 := rfl

/-- where the packet of a number is; -1: nowhere -/
def ixOf (id : Int) (l : List (Pk × Value)) : Int := if l.findIdx (fun x => x.1.id == id) < l.length then l.findIdx (fun x => x.1.id == id) else -1
theorem ixOf_hit {id : Int} {l : List (Pk × Value)} {k : Nat} (hk : k < l.length) (h : l[k].1.id = id) (hn : ∀ j (h : j < k), (l[j]'(by omega)).1.id ≠ id) : ixOf id l = k := by
  have e : l.findIdx (fun x => x.1.id == id) = k := by
    rw [List.findIdx_eq hk]
    exact ⟨by simpa using h, fun j hj => by simpa using hn j hj⟩
  unfold ixOf
  rw [e, if_pos hk]
theorem ixOf_miss {id : Int} {l : List (Pk × Value)} (hn : ∀ j (h : j < l.length), l[j].1.id ≠ id) : ixOf id l = -1 := by
  have e : ¬ l.findIdx (fun x => x.1.id == id) < l.length := by
    intro hlt
    have := List.findIdx_getElem (p := fun x : Pk × Value => x.1.id == id) (w := hlt)
    exact hn _ hlt (by simpa using this)
  unfold ixOf
  rw [if_neg e]

def IntMod (w : World) (n : Int) (e : Ending) (w' : World) : Prop := e = .returned (.int .i64 n) ∧ Mod (fun _ => False) w w'

set_option maxHeartbeats 1000000 in
theorem find1_any (w : World) (a b c id : Int) (v : Value) (q : Nat) (hq : w.cell? ⟨q, 0, none⟩ = some (.int .i64 id)) (hlt : q < w.heap.size) :
    Calls Try.prog 44 #[.agg #[.int .i64 a, .int .i64 b, .int .i64 c, v], .pointer (some ⟨q, 0, none⟩)] w (fun e w' => e = .returned (.bool (a == id)) ∧ w.alloc (.cells #[.int .i64 a, .int .i64 b, .int .i64 c, v] 90) = w') := by
  go_enter Try.func44, Try.ntmps44
  go_wp2
  go_ret
  exact ⟨rfl, rfl⟩

def IxRel (w : World) (l : List (Pk × Value)) (id : Int) (k : Nat) (wr : World) : Prop :=
  (∀ j (h : j < l.length), j < k → l[j].1.id ≠ id) ∧ Mod (fun _ => False) w wr

set_option maxHeartbeats 1000000 in
theorem indexfunc_any (w : World) (v : Value) (l : List (Pk × Value)) (n : Nat) (hn : l.length = n) (hn' : n ≤ 1000000) (hv : Sl w 90 4 v n (l.flatMap pkc)) (id : Int) (q : Nat) (hq : w.cell? ⟨q, 0, none⟩ = some (.int .i64 id)) (hlt : q < w.heap.size) :
    Calls Try.prog 43 #[v, .func (.func 44) #[] #[.pointer (some ⟨q, 0, none⟩)]] w (IntMod w (ixOf id l)) := by
  have HV := Lib.hid hv
  have HN := Lib.hid hn
  obtain ⟨A, c, rfl, _⟩ := hv.shape
  clear hv hn
  go_enter Try.func43, Try.ntmps43
  go_wp2
  go_loopw [5, 8] (fun _ i wr => ∃ k : Nat, k ≤ n ∧ i = .int .i64 k ∧ IxRel w l id k wr) (fun _ i _ => n - (intOf i).toNat)
  case atStart => exact ⟨0, by omega, rfl, fun _ _ h => absurd h (by omega), Mod.refl _ _⟩
  case round =>
    obtain ⟨k, hk, rfl, hne, hM⟩ := hrel
    by_cases hkn : k < n
    · obtain ⟨g, off, cap, hv, _, _, hg, hc, _⟩ := HV.out.elem pkc_len HN.out (by omega) hkn
      obtain ⟨rfl, rfl⟩ : A = some ⟨g, off, none⟩ ∧ c = cap := by simpa using hv
      clear hv
      have hB := hM.below (B := w.heap.size) (fun _ _ x => x.elim) (by omega)
      have c0 := (hB.cell (p := ⟨g, off + k * 4, none⟩) hg).trans (hc 0 (by omega))
      have c1 := (hB.cell (p := ⟨g, off + k * 4 + 1, none⟩) hg).trans (hc 1 (by omega))
      have c2 := (hB.cell (p := ⟨g, off + k * 4 + 2, none⟩) hg).trans (hc 2 (by omega))
      have c3 := (hB.cell (p := ⟨g, off + k * 4 + 3, none⟩) hg).trans (hc 3 (by omega))
      have cq := (hB.cell (p := ⟨q, 0, none⟩) hlt).trans hq
      have hql : q < wr.heap.size := by have := hM.size; omega
      have hkl : k < l.length := by rw [HN.out]; exact hkn
      have hx : ∃ x, l[k] = x := ⟨_, rfl⟩
      obtain ⟨x, hx⟩ := hx
      have HX := Lib.hid hx
      rw [hx] at c0 c1 c2 c3
      simp only [pkc, List.getElem?_cons_zero, List.getElem?_cons_succ] at c0 c1 c2 c3
      clear hc hx
      cases hxi : (x.1.id == id)
      · go_wp2_with (go_at_call 44; refine (find1_any _ _ _ _ id _ q cq hql).mono ?_; rintro e _ ⟨rfl, rfl⟩)
        go_roundw
        case rel =>
          refine ⟨k + 1, by omega, by go_num, fun j h hj => ?_, hM.alloc _⟩
          rcases Nat.lt_or_ge j k with h1 | h1
          · exact hne j h h1
          · obtain rfl : j = k := by omega
            rw [HX.out]
            simpa using hxi
        case measure => simp [intOf]; omega
      · go_wp2_with (go_at_call 44; refine (find1_any _ _ _ _ id _ q cq hql).mono ?_; rintro e _ ⟨rfl, rfl⟩)
        go_ret
        refine ⟨?_, hM.alloc _⟩
        rw [ixOf_hit hkl (by rw [HX.out]; simpa using hxi) (fun j hj => hne j (by omega) hj)]
        rfl
    · go_wp2
      go_ret
      refine ⟨?_, hM⟩
      rw [ixOf_miss (fun j h => hne j h (by rw [HN.out] at h; omega))]
      rfl

theorem Sl.shape' {w : World} {E : TypeId} {size n : Nat} {v : Value} {xs : List Value} (h : Sl w E size v n xs) : ∃ A c, v = .slice A n c := by
  obtain ⟨A, c, h, _⟩ := h.shape
  exact ⟨A, c, h⟩

/-- a network's state -/
structure NSt where
  ps : List Pk
  sent : Int
  now : Int
  fed : List Int
  z : Int

/-- a network in memory: its block is nb; its packets' row has part 1, its fed numbers' part 2, itself part 0; the packets' bytes have no colour -/
structure GNetAt (tn tw : TypeId) (ρ : Col) (w : World) (nb : Nat) (s : NSt) (pv fv : Value) (l : List (Pk × Value)) : Prop where
  blk : Blk w nb #[pv, .int .i64 s.sent, .int .i64 s.now, fv, .int .u64 s.z] tn
  ps : l.map (·.1) = s.ps
  pks : Sl w tw 4 pv l.length (l.flatMap pkc)
  fed : Sl w 29 1 fv s.fed.length (s.fed.map (.int .u64 ·))
  bs : ∀ x ∈ l, Sl w 5 1 x.2 x.1.b.length (bcells x.1.b)
  cn : ρ nb = some (nb, 0)
  cp : Vc ρ pv (some (nb, 1))
  cf : Vc ρ fv (some (nb, 2))
  cb : ∀ x ∈ l, Vc ρ x.2 none

def GNet (tn tw : TypeId) (ρ : Col) (w : World) (nb : Nat) (s : NSt) : Prop := ∃ pv fv l, GNetAt tn tw ρ w nb s pv fv l

theorem GNetAt.frame {tn tw : TypeId} {ρ ρ' : Col} {w w' : World} {nb : Nat} {s : NSt} {pv fv : Value} {l : List (Pk × Value)} {S : Nat → Prop} (h : GNetAt tn tw ρ w nb s pv fv l) (m : Mod S w w') (e : Ext w ρ ρ')
    (hs : ∀ b r, ρ b = some (nb, r) → ¬ S b) (hn : ∀ b, ρ b = none → ¬ S b) : GNetAt tn tw ρ' w' nb s pv fv l :=
  ⟨h.blk.mod m (hs _ _ h.cn), h.ps, h.pks.mod m (fun b hb => hs _ _ (h.cp b hb)), h.fed.mod m (fun b hb => hs _ _ (h.cf b hb)), fun x hx => (h.bs x hx).mod m (fun b hb => hn _ (h.cb x hx b hb)),
    (e _ h.blk.lt).trans h.cn, h.cp.ext h.pks e, h.cf.ext h.fed e, fun x hx => (h.cb x hx).ext (h.bs x hx) e⟩

abbrev NetAt := GNetAt 87 90
abbrev Net := GNet 87 90

theorem Net.info_waiting : (Try.prog.info? 90).map (fun i => (i.zero, i.size, i.bytes)) = some (some (.agg #[.int .i64 0, .int .i64 0, .int .i64 0, .slice none 0 0]), 4, 48) := by kernel_rfl

def SendPost (ρ : Col) (w : World) (nb : Nat) (s : NSt) (fr dst : Int) (bs : List UInt8) (e : Ending) (w' : World) : Prop :=
  e = .returned (.int .i64 (s.sent + 1)) ∧ ∃ ρ', Net ρ' w' nb { s with ps := s.ps ++ [⟨s.sent + 1, fr, dst, bs⟩], sent := s.sent + 1 } ∧ Ext w ρ ρ' ∧ Fit ρ' w' ∧ OwnMod ρ nb w w'

end Go.Proofs.Ytpbadpkleiogoaa
