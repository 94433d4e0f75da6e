/-
  (*Disk).total, in whatever order the map's entries come: the walk over the model, and the evaluator's summary.
-/
import Derived.Test.YtihplijjkcdcjaaGreatDoorChecked
import Derived.Test.YtihplijjkcdcjaaGreatDoorBase
import Derived.Test.YtihplijjkcdcjaaGreatDoorAbsSum
import Derived.Test.YtihplijjkcdcjaaGreatDoorEvA
import Derived.Test.YtihplijjkcdcjaaGreatDoorAbsArgs
import Derived.Outline
import Derived.Laws.IdiomRangeMap
import Derived.LoopTactic
import Derived.Shelf.Abstract
set_option linter.unusedVariables false
set_option linter.unusedSimpArgs false
namespace Go.Proofs.YtihplijjkcdcjaaGreatDoor
open Go.RowKit
set_option linter.unusedVariables false

def TapeOk {α : Type} (m : Sem α) : Prop := ∀ (P : Program) (w : World) (v : α) (w' : World), m.run P w = .ok v w' → w'.tape = w.tape
theorem TapeOk.pure {α : Type} (a : α) : TapeOk (Pure.pure a : Sem α) := fun P w v w' h => by cases h; rfl
theorem TapeOk.bind {α β : Type} {m : Sem α} {f : α → Sem β} (h : TapeOk m) (k : ∀ a, TapeOk (f a)) : TapeOk (m >>= f) := fun P w v w' e => by
  rw [Sem.run_bind] at e
  cases hm : m.run P w with
  | ok a w1 =>
    rw [hm] at e
    exact (k a P w1 v w' e).trans (h P w a w1 hm)
  | halt h1 w1 =>
    rw [hm] at e
    cases e
theorem TapeOk.getObj (r : Nat) : TapeOk (getObj r) := fun P w v w' h => by
  simp only [Go.getObj, Sem.run] at h
  split at h <;> first | (cases h; rfl) | cases h
theorem TapeOk.setObj (r : Nat) (o : Obj) : TapeOk (setObj r o) := fun P w v w' h => by
  simp only [Go.setObj, Sem.run] at h
  split at h <;> first | (cases h; rfl) | cases h
theorem TapeOk.choose (q : Question) : TapeOk (choose q) := fun P w v w' h => by
  simp only [Go.choose, Sem.run] at h
  split at h <;> (cases h; rfl)
theorem TapeOk.halt {α : Type} (x : Halt) : TapeOk (Sem.halt x : Sem α) := fun P w v w' h => by cases h
theorem next_tape (v : Value) (ty : TypeId) : TapeOk (Instr.next v false ty) := by
  unfold Instr.next
  split
  · refine TapeOk.bind (.getObj _) fun o => ?_
    split
    · rename_i h; cases h
    · exact .pure _
    · refine TapeOk.bind (.getObj _) fun o => ?_
      split
      · split
        · exact TapeOk.bind (.halt _) fun _ => TapeOk.bind (.choose _) fun j => by
            split
            · exact TapeOk.bind (.setObj _ _) fun _ => .pure _
            · exact .pure _
            · exact .halt _
        · exact TapeOk.bind (.choose _) fun j => by
            split
            · exact TapeOk.bind (.setObj _ _) fun _ => .pure _
            · exact .pure _
            · exact .halt _
      · exact .halt _
    · exact .halt _
  · exact .halt _

def lenVal (g : MapEntry → Nat) (x : MapEntry) : MapEntry := { x with val := .int .i64 (g x : Int) }
def lenVals (g : MapEntry → Nat) (l : List MapEntry) : List MapEntry := l.map (lenVal g)
theorem lenVals_born (g : MapEntry → Nat) (l : List MapEntry) : (lenVals g l).map (·.born) = l.map (·.born) := by
  unfold lenVals
  rw [List.map_map]
  rfl
theorem lenVals_sum (g : MapEntry → Nat) (l : List MapEntry) : ((lenVals g l).map fun e => valOf e.val).sum = (((l.map g).sum : Nat) : Int) := by
  induction l with
  | nil => rfl
  | cons x l ih =>
    show (g x : Int) + ((lenVals g l).map fun e => valOf e.val).sum = _
    rw [ih, List.map_cons, List.sum_cons]
    omega
theorem seen_le (g : MapEntry → Nat) (seen : Array Nat) (l : List MapEntry) : 0 ≤ seenSum (lenVals g l) seen ∧ seenSum (lenVals g l) seen ≤ (((l.map g).sum : Nat) : Int) := by
  induction l with
  | nil => exact ⟨Int.le_refl _, Int.le_refl _⟩
  | cons x l ih =>
    have e : seenSum (lenVals g (x :: l)) seen = (if seen.contains x.born then (g x : Int) else 0) + seenSum (lenVals g l) seen := rfl
    rw [e, List.map_cons, List.sum_cons]
    split <;> omega
theorem lenVals_mem {g : MapEntry → Nat} {x : MapEntry} {l : List MapEntry} (h : x ∈ l) : lenVal g x ∈ lenVals g l := List.mem_map_of_mem h

set_option maxRecDepth 1000000 in
theorem total_any (w : World) (Bd Od bm : Nat) (es : Array MapEntry) (clock : Nat) (g : MapEntry → Nat) (hc : w.cell? ⟨Bd, Od + 1, none⟩ = some (.map (some bm))) (hb : w.heap[bm]? = some (.map es clock)) (hst : MapKept.Stamped es clock)
    (hv : ∀ x ∈ es.toList, ∃ b o A c, x.val = .pointer (some ⟨b, o, none⟩) ∧ w.cell? ⟨b, o, none⟩ = some (.slice A (g x) c)) (hs : (es.toList.map g).sum ≤ 1073741824) :
    Calls Tryz.prog 382 #[.pointer (some ⟨Bd, Od, none⟩)] w fun e w' => e = .returned (.int .i64 (((es.toList.map g).sum : Nat) : Int)) ∧ ∃ (w1 : World) (seen : Array Nat), (w1.Alike w ∧ w1.tape = w.tape) ∧ w' = w1.alloc (.mapIter (some bm) clock seen clock) := by
  have hrg := run_range_map (P := Tryz.prog) w 74 _ _ bm es clock Tryz.underlying74 hb
  go_enter Tryz.func382, Tryz.ntmps382
  go_wp2
  go_loopw [3] (fun s w' => ∃ (w1 : World) (seen : Array Nat), (w1.Alike w ∧ w1.tape = w.tape) ∧ w' = w1.alloc (.mapIter (some bm) clock seen clock) ∧ s = .int .i64 (seenSum (lenVals g es.toList) seen)) (fun _ w' => (leftOf es (w'.iterSeen w.heap.size)).size)
  case atStart => exact ⟨w, #[], ⟨⟨rfl, rfl, rfl⟩, rfl⟩, rfl, by rw [seenSum_none]⟩
  case round =>
    obtain ⟨w1, seen, ⟨hal, htp⟩, rfl, rfl⟩ := hrel
    have hsz : w1.heap.size = w.heap.size := by rw [hal.1]
    have hb1 : w1.heap[bm]? = some (.map es clock) := by rw [hal.1]; exact hb
    have law := run_next_map (P := Tryz.prog) w1 0 bm clock clock seen es clock hb1 hst.1 (Nat.le_refl _)
    rw [hsz] at law
    rcases law with ⟨h0, hrun⟩ | ⟨e, he, w2, hal2, hrun⟩
    · have hnx : ∀ ty, (Instr.next (.pointer (some ⟨w.heap.size, 0, none⟩)) false ty).run Tryz.prog (w1.alloc (.mapIter (some bm) clock seen clock)) = _ := fun _ => hrun
      go_wp2
      go_ret
      rw [seenSum_full seen (lenVals g es.toList) (fun x hx => by
        obtain ⟨y, hy, rfl⟩ := List.mem_map.1 hx
        exact all_seen es seen h0 y hy), lenVals_sum]
      exact ⟨rfl, w1, seen, ⟨hal, htp⟩, rfl⟩
    · obtain ⟨b, o, A, c, hval, hcell⟩ := hv e (mem_left he).1
      have htp2 : w2.tape = w1.tape := by
        have := next_tape _ _ _ _ _ _ hrun
        exact this
      rw [hval] at hrun
      have hnx : ∀ ty, (Instr.next (.pointer (some ⟨w.heap.size, 0, none⟩)) false ty).run Tryz.prog (w1.alloc (.mapIter (some bm) clock seen clock)) = _ := fun _ => hrun
      have hsz2 : w2.heap.size = w.heap.size := by rw [hal2.1, hal.1]
      have hb2 : w2.heap[bm]? = some (.map es clock) := by rw [hal2.1]; exact hb1
      have hen := run_entry_map (P := Tryz.prog) w2 bm clock seen es clock e hb2 (mem_left he).1 hst.2.1
      rw [hsz2, hval] at hen
      have hcell2 : (w2.alloc (.mapIter (some bm) clock (seen.push e.born) clock)).cell? ⟨b, o, none⟩ = some (.slice A (g e) c) := by
        have h2 : w2.cell? ⟨b, o, none⟩ = some (.slice A (g e) c) := by
          have : w2.heap = w.heap := by rw [hal2.1, hal.1]
          unfold World.cell? at hcell ⊢
          rw [this]
          exact hcell
        have hlt : b < w2.heap.size := by
          rcases Nat.lt_or_ge b w2.heap.size with h | h
          · exact h
          · unfold World.cell? at h2
            rw [Array.getElem?_eq_none h] at h2
            cases h2
        unfold World.cell? at h2 ⊢
        rw [heap_alloc_old w2 _ hlt]
        exact h2
      have hpush := seenSum_push seen (lenVal g e) (mem_left he).2 (lenVals g es.toList) (by rw [lenVals_born]; exact hst.2.1) (lenVals_mem (mem_left he).1)
      have hb3 := (seen_le g (seen.push e.born) es.toList).2
      have hb4 := (seen_le g seen es.toList).1
      have hval2 : valOf (lenVal g e).val = (g e : Int) := rfl
      have hborn2 : (lenVal g e).born = e.born := rfl
      rw [hval2, hborn2] at hpush
      have hsum : 0 ≤ seenSum (lenVals g es.toList) seen + (g e : Int) ∧ seenSum (lenVals g es.toList) seen + (g e : Int) ≤ 1073741824 := by omega
      go_wp2
      go_roundw
      case rel =>
        refine ⟨w2, seen.push e.born, ⟨⟨hal2.1.trans hal.1, hal2.2.1.trans hal.2.1, hal2.2.2.trans hal.2.2⟩, htp2.trans htp⟩, rfl, ?_⟩
        rw [hpush]
      case measure =>
        rw [← hsz2, World.iterSeen_alloc, hsz2, ← hsz, World.iterSeen_alloc]
        exact left_shrinks es seen e he

namespace Abs
section
variable {P : Program} {φ : Phi} {w : World}
/-- the length of a file, in a world -/
def lenIn (w : World) (x : MapEntry) : Nat :=
  match x.val with
  | .pointer (some a) => (match w.cell? a with
    | some (.slice _ n _) => n
    | _ => 0)
  | _ => 0
theorem fileLen_ok {s : St} (hS : SRel φ s w) {v v' : Value} {n : Nat} (hv : VRel φ v v') (h : fileLen s.heap v = some n) : ∃ b o A c, v' = .pointer (some ⟨b, o, none⟩) ∧ w.cell? ⟨b, o, none⟩ = some (.slice A n c) := by
  unfold fileLen at h
  split at h <;> first | (cases h; done) | skip
  split at h <;> first | (cases h; done) | skip
  rename_i hb
  split at h <;> first | (cases h; done) | skip
  rename_i hn
  cases h
  cases hv with
  | @ptr _ L _ hL =>
    rw [nth_eq] at hn
    obtain ⟨u, h1, h2⟩ := cellAt hS hb hL hn
    cases h2 with
    | nilSlice => exact ⟨_, _, _, _, rfl, h1⟩
    | slice => exact ⟨_, _, _, _, rfl, h1⟩
    | room => exact ⟨_, _, _, _, rfl, h1⟩
    | full => exact ⟨_, _, _, _, rfl, h1⟩
theorem fileSum_ok {s : St} (hS : SRel φ s w) {es fs : List MapEntry} (hE : EsR φ es fs) {n : Nat} (h : fileSum s.heap es = some n) : (fs.map (lenIn w)).sum = n ∧ ∀ x ∈ fs, ∃ b o A c, x.val = .pointer (some ⟨b, o, none⟩) ∧ w.cell? ⟨b, o, none⟩ = some (.slice A (lenIn w x) c) := by
  induction hE generalizing n with
  | nil => cases h; exact ⟨rfl, fun x hx => by cases hx⟩
  | @cons e f es fs hr _ ih =>
    have e0 : fileSum s.heap (e :: es) = Option.rec none (fun n => Option.rec none (fun m => natK (Nat.add n m) some) (fileSum s.heap es)) (fileLen s.heap e.val) := rfl
    rw [e0] at h
    cases h1 : fileLen s.heap e.val with
    | none => rw [h1] at h; cases h
    | some a =>
      rw [h1] at h
      cases h2 : fileSum s.heap es with
      | none => rw [h2] at h; cases h
      | some m =>
        rw [h2] at h
        have h : natK (Nat.add a m) some = some n := h
        rw [natK_eq] at h
        obtain rfl := Option.some.inj h
        obtain ⟨q1, q2⟩ := ih h2
        obtain ⟨b, o, A, c, q3, q4⟩ := fileLen_ok hS hr.2.1 h1
        have q5 : lenIn w f = a := by
          unfold lenIn
          rw [q3]
          show (match w.cell? ⟨b, o, none⟩ with | some (.slice _ n _) => n | _ => 0) = a
          rw [q4]
        refine ⟨?_, fun x hx => ?_⟩
        · rw [List.map_cons, List.sum_cons, q1, q5]; rfl
        · rcases List.mem_cons.1 hx with rfl | hx
          · exact ⟨b, o, A, c, q3, by rw [q5]; exact q4⟩
          · exact q2 x hx
theorem keyStrs_ok {es fs : List MapEntry} (hE : EsR φ es fs) {ks : List (List UInt8)} (h : keyStrs es = some ks) : fs.map (·.key) = ks.map mkStr ∧ fs.map (·.born) = es.map (·.born) := by
  induction hE generalizing ks with
  | nil => cases h; exact ⟨rfl, rfl⟩
  | @cons e f es fs hr _ ih =>
    obtain ⟨ek, ev, eb⟩ := e
    obtain ⟨fk, fv, fb⟩ := f
    obtain ⟨r1, r2, r3⟩ := hr
    simp only at r1 r2 r3
    have e0 : keyStrs (⟨ek, ev, eb⟩ :: es) = keyStr1 ek (keyStrs es) := rfl
    rw [e0] at h
    unfold keyStr1 at h
    split at h <;> first | (cases h; done) | skip
    cases h2 : keyStrs es with
    | none => rw [h2] at h; cases h
    | some l =>
      rw [h2] at h
      cases h
      cases r1
      obtain ⟨i1, i2⟩ := ih h2
      exact ⟨by simp [i1, mkStr], by simp [i2, r3]⟩
end
end Abs
open Abs in
theorem total_sum (args : List Value) (s : St) (v : Value) (s1 : St) (h : sumTotal args s = .ok (v, s1)) (fr : Frame) (cs : List Frame) (φ : Phi) (w : World) (args' : Array Value) (hS : SRel φ s w) (hl : LRel φ args args'.toList) :
    ∃ ψ n w1 v' w', (callFunc 382 args').run Tryz.prog w = .ok n w1 ∧ Ran Tryz.prog .normal fr cs n w1 v' w' ∧ Post φ s w ψ s1 w' ∧ VRel ψ v v' := by
  unfold sumTotal at h
  split at h <;> first | (cases h; done) | skip
  split at h <;> first | (cases h; done) | skip
  rename_i hb
  split at h <;> first | (cases h; done) | skip
  rename_i hr
  unfold sumTotal2 at h
  split at h <;> first | (cases h; done) | skip
  rename_i hm
  obtain ⟨hborn, h⟩ := ifb_no h
  obtain ⟨ks, hks, h⟩ := Rs.bind_ok h
  obtain ⟨hnd, h⟩ := ifb_no h
  obtain ⟨n, hn, h⟩ := Rs.bind_ok h
  obtain ⟨hle, h⟩ := ifb_no h
  cases h
  have hle := Nat.le_of_ble_eq_true hle
  obtain ⟨a', rfl, ha⟩ := args1 hl
  cases ha with
  | @ptr _ L _ hL =>
    rw [nth_eq] at hr
    obtain ⟨u, h1, h2⟩ := cellAt hS hb hL hr
    cases h2 with
    | @map _ M hM =>
      obtain ⟨fs, hfs, hE⟩ := mapAtL hS hm hM
      obtain ⟨q1, q2⟩ := fileSum_ok hS hE (Rs.of_ok hn)
      obtain ⟨k1, k2⟩ := keyStrs_ok hE (Rs.of_ok hks)
      obtain ⟨b1, b2, _⟩ := bornB_spec hborn
      have hst : MapKept.Stamped ⟨fs⟩ _ := ⟨fun x hx => by
          have : x.born ∈ fs.map (·.born) := List.mem_map_of_mem hx
          rw [k2] at this
          obtain ⟨y, hy, e⟩ := List.mem_map.1 this
          rw [← e]
          exact b1 y hy, by show (fs.map (·.born)).Nodup; rw [k2]; exact b2, by
          show (fs.map (·.key)).Nodup
          rw [k1]
          refine List.pairwise_map.2 ((nodupB_spec hnd).imp fun {a b} h e1 => h ?_)
          unfold mkStr at e1
          simpa using e1⟩
      have hcall := total_any w L.blk _ M.blk ⟨fs⟩ _ (lenIn w) (by rw [Nat.add_assoc]; exact h1) hfs hst q2 (by show (fs.map (lenIn w)).sum ≤ _; omega)
      obtain ⟨v', w', ⟨e1, w1, seen, ⟨hal, htp⟩, e2⟩, hran⟩ := ran_of_calls hcall (fun ee w' hx => ⟨_, hx.1⟩) fr cs
      cases e1
      have hbel : Below w.heap.size w w' := by
        subst e2
        exact ⟨hal.2.1, htp, hal.2.2, by show w.heap.size ≤ (w1.heap.push _).size; rw [hal.1]; simp, fun k hk => by rw [heap_alloc_old w1 _ (by rw [hal.1]; exact hk), hal.1]⟩
      refine ⟨φ, _, w, _, w', Go.Proofs.enters_of Tryz.func382 (by kernel_rfl) rfl _ _, hran, Post.below hS hbel, ?_⟩
      have : (((fs.map (lenIn w)).sum : Nat) : Int) = Int.ofNat n := by rw [q1]; rfl
      show VRel φ (.int .i64 (Int.ofNat n)) (.int .i64 (((fs.map (lenIn w)).sum : Nat) : Int))
      rw [this]
      exact .int _ _
end Go.Proofs.YtihplijjkcdcjaaGreatDoor
