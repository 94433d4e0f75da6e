/-
  The walks of a network's Drop, Deliver, Double.
-/
import Derived.Test.YtpbadpkleiogoaaNetRand
namespace Go.Proofs.Ytpbadpkleiogoaa
open Go.RowKit
attribute [local go_sem ↓] Go.wp_at_zero Go.wp_at_succ

/-- where a packet of this number is among packets -/
def pixOf (id : Int) (l : List Pk) : Nat := l.findIdx (fun x => x.id == id)
theorem pix_map (id : Int) (l : List (Pk × Value)) : pixOf id (l.map (·.1)) = l.findIdx (fun x => x.1.id == id) := by
  unfold pixOf
  rw [List.findIdx_map]
  rfl
theorem ixOf_eq {id : Int} {l : List (Pk × Value)} {ps : List Pk} (h : l.map (·.1) = ps) : ixOf id l = if pixOf id ps < ps.length then (pixOf id ps : Int) else -1 := by
  subst h
  unfold ixOf
  rw [pix_map, List.length_map]

theorem shapes {tn tw : TypeId} {ρ : Col} {w : World} {nb : Nat} {s : NSt} {pv fv : Value} {l : List (Pk × Value)} (h : GNetAt tn tw ρ w nb s pv fv l) : ∀ x ∈ l, x.2.oneCell' = true := fun x hx => by
  obtain ⟨A, c, e⟩ := (h.bs x hx).shape'
  rw [e]
  rfl

/-- a packet is taken out: what is left is the network without it (what else has turned, is new) -/
theorem take_close {tn tw : TypeId} {ρ : Col} {w w1 w2 wf : World} {nb i n c : Nat} {A : Option Addr} {s : NSt} {fv : Value} {l : List (Pk × Value)} (hA : GNetAt tn tw ρ w nb s (.slice A n c) fv l) (hM : Mod (fun _ => False) w w1)
    (hs : Sl w2 tw 4 (.slice A (n - 1) c) (n - 1) ((l.eraseIdx i).flatMap pkc)) (hm : Mod (fun b => (Value.slice A n c).ownBlock = some b) w1 w2) (hi : i < l.length) (hn : l.length = n) (hF : Fit ρ w)
    (hx : Mod (fun b => w.heap.size ≤ b) (w2.setCell ⟨nb, 0, none⟩ (.slice A (n - 1) c)) wf) :
    GNet tn tw ρ wf nb { s with ps := s.ps.eraseIdx i } ∧ Fit ρ wf ∧ OwnMod ρ nb w wf ∧ ∀ x ∈ l, Sl wf 5 1 x.2 x.1.b.length (bcells x.1.b) := by
  have M : Mod (fun b => (Value.slice A n c).ownBlock = some b) w w2 := (hM.mono (fun _ _ x => x.elim)).trans hm (fun _ _ x => x)
  have he : (Value.slice A (n - 1) c).ownBlock = (Value.slice A n c).ownBlock := by cases A <;> rfl
  have hsf : (w2.setCell ⟨nb, 0, none⟩ (.slice A (n - 1) c)).heap.size = w2.heap.size := by simp [World.setCell]
  have hB : ∀ x ∈ l, Sl wf 5 1 x.2 x.1.b.length (bcells x.1.b) := fun x hx' =>
    (((hA.bs x hx').mod M (fun b hb e => by have h1 := hA.cb x hx' b hb; rw [hA.cp b e] at h1; cases h1)).setCell (hA.ne_b hx') _).mod hx (fun b hb e => by have := (hA.bs x hx').lt hb; omega)
  refine ⟨⟨_, fv, l.eraseIdx i, ((hA.blk.mod M hA.ne_p).set 0 _).mod hx (by have := hA.blk.lt; omega), ?_, ?_, ?_, fun x hx => hB x (List.mem_of_mem_eraseIdx hx), hA.cn, fun b hb => hA.cp b (he ▸ hb), hA.cf, fun x hx => hA.cb x (List.mem_of_mem_eraseIdx hx)⟩,
    Fit.mono hF (by have := hx.size; have := M.size; omega), Mod.trans (((OwnMod.refl ρ nb w).val hA.cp M).setCell hA.cn _) hx (fun b hb e => absurd hb (by omega)), hB⟩
  · rw [← hA.ps]
    simp [List.eraseIdx_eq_take_drop_succ, List.map_take, List.map_drop]
  · have e1 : (l.eraseIdx i).length = n - 1 := by rw [List.length_eraseIdx_of_lt hi, hn]
    rw [e1]
    exact (hs.setCell (fun e => hA.ne_p (he ▸ e)) _).mod hx (fun b hb e => by have := hA.pks.lt (he ▸ hb); omega)
  · exact ((hA.fed.mod M (fun b hb e => by have h1 := hA.cf b hb; rw [hA.cp b e] at h1; cases h1)).setCell hA.ne_f _).mod hx (fun b hb e => by have := hA.fed.lt hb; omega)

/-- the number of an answer: 4 where there is none -/
def DropPost (ρ : Col) (w : World) (nb : Nat) (s : NSt) (id : Int) (e : Ending) (w' : World) : Prop :=
  (s.ps.length ≤ pixOf id s.ps ∧ e = .returned (.int .i64 4) ∧ Mod (fun _ => False) w w') ∨
    (pixOf id s.ps < s.ps.length ∧ e = .returned (.int .i64 0) ∧ Net ρ w' nb { s with ps := s.ps.eraseIdx (pixOf id s.ps) } ∧ Fit ρ w' ∧ OwnMod ρ nb w w')

set_option maxRecDepth 100000 in
set_option maxHeartbeats 2000000 in
theorem drop_any (ρ : Col) (w : World) (nb : Nat) (s : NSt) (hN : Net ρ w nb s) (hF : Fit ρ w) (id : Int) (hl : s.ps.length ≤ 1000000) :
    Calls Try.prog 26 #[.pointer (some ⟨nb, 0, none⟩), .int .i64 id] w (DropPost ρ w nb s id) := by
  obtain ⟨pv, fv, l, hA⟩ := hN
  have hll : l.length = s.ps.length := by rw [← hA.ps]; simp
  have hix := ixOf_eq (id := id) hA.ps
  obtain ⟨A, c, rfl⟩ := hA.pks.shape'
  have c0 : w.cell? ⟨nb, 0, none⟩ = some (.slice A l.length c) := hA.blk.cell 0
  have z0 : w.frozen? ⟨nb, 0, none⟩ = false := hA.blk.free 0
  have hnb := hA.blk.lt
  have hne := hA.ne_p
  have HLL := Lib.hid hll
  have HNE := Lib.hid hne
  by_cases hlt : pixOf id s.ps < s.ps.length
  · rw [if_pos hlt] at hix
    generalize hp : pixOf id s.ps = k at hix hlt
    have HP := Lib.hid hp
    have HIX := Lib.hid hix
    clear hll hp hix hne
    go_enter Try.func26, Try.ntmps26
    go_wp2_with fail
    refine (find_any w nb _ l c0 hnb (by rw [HLL.out]; exact hl) hA.pks id).mono ?_
    rintro e w1 ⟨rfl, hM⟩
    rw [HIX.out]
    have d0 := hM.cell c0 (fun h => h)
    have e0 := hM.free z0 hnb (fun h => h)
    have b0 : ¬ ((k : Int) < 0) := by omega
    have b1 : (k : Int) ≤ 1000000 := by omega
    go_wp2_with fail
    refine (delete_any w1 A l.length c k l rfl (by rw [HLL.out]; exact hl) (by rw [HLL.out]; exact hlt) (hA.pks.mod hM (fun _ _ h => h)) (shapes hA)).mono ?_
    rintro e w2 ⟨rfl, hs2, hm2⟩
    have f0 := hm2.cell d0 HNE.out
    have g0 := hm2.free e0 (Nat.lt_of_lt_of_le hnb hM.size) HNE.out
    go_wp2
    go_ret
    obtain ⟨q1, q2, q3, _⟩ := take_close hA hM hs2 hm2 (by rw [HLL.out]; exact hlt) rfl hF (Mod.refl _ _)
    refine .inr ?_
    rw [HP.out]
    exact ⟨hlt, rfl, q1, q2, q3⟩
  · rw [if_neg hlt] at hix
    have HIX := Lib.hid hix
    have HLT := Lib.hid hlt
    clear hix hll hne hlt
    go_enter Try.func26, Try.ntmps26
    go_wp2_with fail
    refine (find_any w nb _ l c0 hnb (by rw [HLL.out]; exact hl) hA.pks id).mono ?_
    rintro e w1 ⟨rfl, hM⟩
    rw [HIX.out]
    go_wp2
    go_ret
    exact .inl ⟨by have := HLT.out; omega, rfl, hM⟩

def DelivPost (ρ : Col) (w : World) (nb : Nat) (s : NSt) (id most : Int) (e : Ending) (w' : World) : Prop :=
  (s.ps.length ≤ pixOf id s.ps ∧ e = .returned (.tuple #[.int .i64 0, .int .i64 0, .slice none 0 0, .int .i64 4]) ∧ Mod (fun _ => False) w w') ∨
    (∃ h : pixOf id s.ps < s.ps.length, ∃ bv : Value, e = .returned (.tuple #[.int .i64 s.ps[pixOf id s.ps].fr, .int .i64 s.ps[pixOf id s.ps].dst, bv, .int .i64 0]) ∧
      (∃ n bs, Sl w' 5 1 bv n (bcells bs) ∧ bs = (if 0 ≤ most ∧ most < s.ps[pixOf id s.ps].b.length then s.ps[pixOf id s.ps].b.take most.toNat else s.ps[pixOf id s.ps].b)) ∧ Vc ρ bv none ∧
      Net ρ w' nb { s with ps := s.ps.eraseIdx (pixOf id s.ps) } ∧ Fit ρ w' ∧ OwnMod ρ nb w w')

theorem results_tmp4 {fn : Func} {t u v x : Tmp} (h : fn.results = #[.tmp t, .tmp u, .tmp v, .tmp x]) (tmps : Array Value) (P : Program) (w : World) :
    (results fn tmps).run P w = .ok (.tuple #[tmps.getD t undef, tmps.getD u undef, tmps.getD v undef, tmps.getD x undef]) w := by simp [results, h]

theorem Sl.cut {w : World} {E n c : Nat} {A : Option Addr} {xs : List Value} (h : Sl w E 1 (.slice A n c) n xs) {mo : Nat} (hm : mo < n) : Sl w E 1 (.slice A mo mo) mo (xs.take mo) := by
  have h0 := h.1
  refine ⟨by rw [List.length_take]; omega, .inr ?_⟩
  rcases h.2 with ⟨e, _⟩ | ⟨g, off, cap, cur, fz, e, hb, hz, h3, h4, h5, h6⟩
  · cases e
    omega
  · cases e
    refine ⟨g, off, mo, cur, fz, rfl, hb, hz, by omega, by omega, by omega, fun j hj => ?_⟩
    rw [List.length_take] at hj
    rw [h6 j (by omega), List.getElem?_take, if_pos (by omega)]

/-- what is handed out of a packet's bytes -/
def cutV (most : Int) (m : Nat) (A : Option Addr) (c : Nat) : Value := if 0 ≤ most ∧ most < m then .slice A most.toNat most.toNat else .slice A m c

def CorePost (ρ : Col) (w : World) (nb k : Nat) (s : NSt) (l : List (Pk × Value)) (fr dst : Int) (bv : Value) (e : Ending) (w' : World) : Prop :=
  e = .returned (.tuple #[.int .i64 fr, .int .i64 dst, bv, .int .i64 0]) ∧ Net ρ w' nb { s with ps := s.ps.eraseIdx k } ∧ Fit ρ w' ∧ OwnMod ρ nb w w' ∧ ∀ x ∈ l, Sl w' 5 1 x.2 x.1.b.length (bcells x.1.b)

set_option maxRecDepth 100000 in
set_option maxHeartbeats 2000000 in
theorem deliver_core (ρ : Col) (w : World) (nb g off n c k : Nat) (s : NSt) (fv : Value) (l : List (Pk × Value)) (hA : NetAt ρ w nb s (.slice (some ⟨g, off, none⟩) n c) fv l) (hF : Fit ρ w) (ix most xid fr dst : Int) (hn : l.length = n) (hn1 : n ≤ 1000000)
    (xA : Option Addr) (m xc : Nat) (hxm : m ≤ xc) (hix : Hid (ixOf ix l = k)) (hkn : k < n)
    (p0 : w.cell? ⟨g, off + k * 4, none⟩ = some (.int .i64 xid)) (p1 : w.cell? ⟨g, off + k * 4 + 1, none⟩ = some (.int .i64 fr)) (p2 : w.cell? ⟨g, off + k * 4 + 2, none⟩ = some (.int .i64 dst)) (p3 : w.cell? ⟨g, off + k * 4 + 3, none⟩ = some (.slice xA m xc)) :
    Calls Try.prog 24 #[.pointer (some ⟨nb, 0, none⟩), .int .i64 ix, .int .i64 most] w (CorePost ρ w nb k s l fr dst (cutV most m xA xc)) := by
  subst hn
  have hpk := hA.pks
  have c0 : w.cell? ⟨nb, 0, none⟩ = some (.slice (some ⟨g, off, none⟩) l.length c) := hA.blk.cell 0
  have z0 : w.frozen? ⟨nb, 0, none⟩ = false := hA.blk.free 0
  have hnb := hA.blk.lt
  have hg := hpk.lt rfl
  have hne : g ≠ nb := fun e => hA.ne_p (by rw [e]; rfl)
  have hcm : l.length ≤ c := by
    obtain ⟨A', cap', e, h1, _⟩ := hpk.shape
    cases e
    exact h1
  go_enter Try.func24, Try.ntmps24
  go_wp2_with fail
  refine (find_any w nb _ l c0 hnb hn1 hpk ix).mono ?_
  rintro e w1 ⟨rfl, hM⟩
  rw [hix.out]
  have d0 := hM.cell c0 (fun h => h)
  have e0 := hM.free z0 hnb (fun h => h)
  have q0 := hM.cell p0 (fun h => h)
  have q1 := hM.cell p1 (fun h => h)
  have q2 := hM.cell p2 (fun h => h)
  have q3 := hM.cell p3 (fun h => h)
  have b0 : ¬ ((k : Int) < 0) := by omega
  have b1 : (k : Int) ≤ 1000000 := by omega
  have b2 : (k : Int) < (l.length : Int) := by omega
  have hnb1 : nb < w1.heap.size := Nat.lt_of_lt_of_le hnb hM.size
  have hgs : g < w1.heap.size := Nat.lt_of_lt_of_le hg hM.size
  clear p0 p1 p2 p3
  go_wp2_with fail
  refine (delete_any _ (some ⟨g, off, none⟩) l.length c k l rfl hn1 hkn ((hpk.mod hM (fun _ _ h => h)).alloc _) (shapes hA)).mono ?_
  rintro e w2 ⟨rfl, hs2, hm2⟩
  have hX := Blk.new w1 #[.int .i64 xid, .int .i64 fr, .int .i64 dst, .slice xA m xc] 90
  have hX2 := hX.mod hm2 (fun e => by simp [Value.ownBlock] at e; omega)
  have f0 := hm2.cell (keepA d0) (fun e => hne (by simpa [Value.ownBlock] using e))
  have g0 := hm2.free (keepF e0 hnb1) (by simp; omega) (fun e => hne (by simpa [Value.ownBlock] using e))
  have hM' : Mod (fun _ => False) w (w1.alloc (.cells #[.int .i64 xid, .int .i64 fr, .int .i64 dst, .slice xA m xc] 90)) := hM.alloc _
  have hpw : w.heap.size ≤ w1.heap.size := hM.size
  clear hX q0 q1 q2 q3 d0 e0
  generalize hpb : w1.heap.size = pb at *
  have HPB := Lib.hid hpb
  clear hpb
  have x0 := hX2.cell 0
  have x1 := hX2.cell 1
  have x2 := hX2.cell 2
  have x3 := hX2.cell 3
  have xz := hX2.free
  simp at x0 x1 x2 x3
  have hne1 : pb ≠ nb := by omega
  have hne2 : nb ≠ pb := by omega
  by_cases h1 : 0 ≤ most
  · by_cases h2 : most < (m : Int)
    · obtain ⟨mo, rfl⟩ := Int.eq_ofNat_of_zero_le h1
      have hc' : Hid (cutV (mo : Int) m xA xc = .slice xA mo mo) := Lib.hid (by unfold cutV; rw [if_pos ⟨h1, h2⟩]; simp)
      have h3 : mo ≤ xc := by omega
      have h4 : (mo : Int) ≤ (xc : Int) := by omega
      have h5 : (mo : Int) < (m : Int) := h2
      go_wp2_with fail
      go_quiet (fail)
      go_wp2
      refine bodyPost_ret (results_tmp4 rfl _ _ _) rfl ?_
      obtain ⟨r1, r2, r3, r4⟩ := take_close hA hM' hs2 hm2 hkn rfl hF (((Mod.refl _ _).setCell (p := ⟨pb, 3, none⟩) (fun _ => hpw) _).drewN _)
      refine ⟨by rw [hc'.out]; rfl, r1, r2, r3, r4⟩
    · have hc' : Hid (cutV most m xA xc = .slice xA m xc) := Lib.hid (by unfold cutV; rw [if_neg (fun h => h2 h.2)])
      go_wp2_with fail
      go_quiet (fail)
      go_wp2
      refine bodyPost_ret (results_tmp4 rfl _ _ _) rfl ?_
      obtain ⟨r1, r2, r3, r4⟩ := take_close hA hM' hs2 hm2 hkn rfl hF ((Mod.refl _ _).drewN _)
      refine ⟨by rw [hc'.out]; rfl, r1, r2, r3, r4⟩
  · have hc' : Hid (cutV most m xA xc = .slice xA m xc) := Lib.hid (by unfold cutV; rw [if_neg (fun h => h1 h.1)])
    have h1' : decide (0 ≤ most) = false := by simpa using h1
    go_wp2_with fail
    go_quiet (fail)
    go_wp2
    refine bodyPost_ret (results_tmp4 rfl _ _ _) rfl ?_
    obtain ⟨r1, r2, r3, r4⟩ := take_close hA hM' hs2 hm2 hkn rfl hF ((Mod.refl _ _).drewN _)
    refine ⟨by rw [hc'.out]; rfl, r1, r2, r3, r4⟩

set_option maxRecDepth 100000 in
set_option maxHeartbeats 2000000 in
theorem deliver_any (ρ : Col) (w : World) (nb : Nat) (s : NSt) (hN : Net ρ w nb s) (hF : Fit ρ w) (ix most : Int) (hl : s.ps.length ≤ 1000000) :
    Calls Try.prog 24 #[.pointer (some ⟨nb, 0, none⟩), .int .i64 ix, .int .i64 most] w (DelivPost ρ w nb s ix most) := by
  obtain ⟨pv, fv, l, hA⟩ := hN
  have hll : l.length = s.ps.length := by rw [← hA.ps]; simp
  have hix := ixOf_eq (id := ix) hA.ps
  obtain ⟨A, c, rfl⟩ := hA.pks.shape'
  have c0 : w.cell? ⟨nb, 0, none⟩ = some (.slice A l.length c) := hA.blk.cell 0
  have z0 : w.frozen? ⟨nb, 0, none⟩ = false := hA.blk.free 0
  have hnb := hA.blk.lt
  have hne := hA.ne_p
  have HLL := Lib.hid hll
  have HNE := Lib.hid hne
  by_cases hlt : pixOf ix s.ps < s.ps.length
  · rw [if_pos hlt] at hix
    have hkl : pixOf ix s.ps < l.length := by rw [hll]; exact hlt
    have hx : s.ps[pixOf ix s.ps] = (l[pixOf ix s.ps]).1 := by
      have := hA.ps
      simp [← this]
    obtain ⟨g, off, cap, he, _, hcm, hg, hcell, _⟩ := hA.pks.elem pkc_len rfl (by omega) hkl
    obtain ⟨rfl, rfl⟩ : A = some ⟨g, off, none⟩ ∧ c = cap := by simpa using he
    have hmem : l[pixOf ix s.ps] ∈ l := List.getElem_mem _
    have hSl := hA.bs _ hmem
    have hVc := hA.cb _ hmem
    generalize hxl : l[pixOf ix s.ps] = x at hx hcell hSl hVc hmem
    obtain ⟨⟨xid, xfr, xdst, xb⟩, xv⟩ := x
    obtain ⟨xA, xc, hxv, hxm, hxx⟩ := hSl.shape
    simp only at hxv
    subst hxv
    have p0 := hcell 0 (by omega)
    have p1 := hcell 1 (by omega)
    have p2 := hcell 2 (by omega)
    have p3 := hcell 3 (by omega)
    simp only [pkc, List.getElem?_cons_zero, List.getElem?_cons_succ, Nat.add_zero] at p0 p1 p2 p3
    refine (deliver_core ρ w nb g off l.length c (pixOf ix s.ps) s fv l hA hF ix most xid xfr xdst rfl (by rw [hll]; exact hl) xA xb.length xc hxm (Lib.hid hix) hkl p0 p1 p2 p3).mono ?_
    rintro e w' ⟨h1, h2, h3, h4, h5⟩
    refine .inr ⟨hlt, cutV most xb.length xA xc, ?_, ?_, ?_, h2, h3, h4⟩
    · rw [hx]
      exact h1
    · rw [hx]
      have h6 := h5 _ hmem
      unfold cutV
      by_cases hc : 0 ≤ most ∧ most < (xb.length : Int)
      · rw [if_pos hc]
        refine ⟨most.toNat, xb.take most.toNat, ?_, by rw [if_pos hc]⟩
        have := Sl.cut h6 (mo := most.toNat) (by omega)
        simpa [bcells, List.map_take] using this
      · rw [if_neg hc]
        exact ⟨xb.length, xb, h6, by rw [if_neg hc]⟩
    · intro b hb
      refine hVc b ?_
      unfold cutV at hb
      split at hb
      · cases xA <;> exact hb
      · exact hb
  · rw [if_neg hlt] at hix
    have HIX := Lib.hid hix
    have HLT := Lib.hid hlt
    clear hix hll hne hlt
    go_enter Try.func24, Try.ntmps24
    go_wp2_with fail
    refine (find_any w nb _ l c0 hnb (by rw [HLL.out]; exact hl) hA.pks ix).mono ?_
    rintro e w1 ⟨rfl, hM⟩
    rw [HIX.out]
    go_wp2
    refine bodyPost_ret (results_tmp4 rfl _ _ _) rfl ?_
    exact .inl ⟨by have := HLT.out; omega, rfl, hM⟩

/-- a packet once more -/
def DoublePost (ρ : Col) (w : World) (nb : Nat) (s : NSt) (id : Int) (e : Ending) (w' : World) : Prop :=
  (s.ps.length ≤ pixOf id s.ps ∧ e = .returned (.tuple #[.int .i64 0, .int .i64 4]) ∧ Mod (fun _ => False) w w') ∨
    (∃ h : pixOf id s.ps < s.ps.length, e = .returned (.tuple #[.int .i64 (s.sent + 1), .int .i64 0]) ∧
      ∃ ρ', Net ρ' w' nb { s with ps := s.ps ++ [⟨s.sent + 1, s.ps[pixOf id s.ps].fr, s.ps[pixOf id s.ps].dst, s.ps[pixOf id s.ps].b⟩], sent := s.sent + 1 } ∧ Ext w ρ ρ' ∧ Fit ρ' w' ∧ OwnMod ρ nb w w')

def DoubleOk (ρ : Col) (w : World) (nb : Nat) (s : NSt) (fr dst : Int) (xb : List UInt8) (e : Ending) (w' : World) : Prop :=
  e = .returned (.tuple #[.int .i64 (s.sent + 1), .int .i64 0]) ∧
    ∃ ρ', Net ρ' w' nb { s with ps := s.ps ++ [⟨s.sent + 1, fr, dst, xb⟩], sent := s.sent + 1 } ∧ Ext w ρ ρ' ∧ Fit ρ' w' ∧ OwnMod ρ nb w w'

set_option maxRecDepth 100000 in
set_option maxHeartbeats 2000000 in
theorem double_core (ρ : Col) (w : World) (nb g off c k : Nat) (s : NSt) (fv : Value) (l : List (Pk × Value)) (hA : NetAt ρ w nb s (.slice (some ⟨g, off, none⟩) l.length c) fv l) (hF : Fit ρ w) (ix xid fr dst : Int) (hn1 : l.length ≤ 1000000)
    (hs0 : 0 ≤ s.sent) (hs1 : s.sent ≤ 1000000) (xA : Option Addr) (xc : Nat) (xb : List UInt8) (hxm : xb.length ≤ 140737488355328) (hSl : Sl w 5 1 (.slice xA xb.length xc) xb.length (bcells xb)) (hVc : Vc ρ (.slice xA xb.length xc) none)
    (hix : Hid (ixOf ix l = k)) (hkn : k < l.length)
    (p0 : w.cell? ⟨g, off + k * 4, none⟩ = some (.int .i64 xid)) (p1 : w.cell? ⟨g, off + k * 4 + 1, none⟩ = some (.int .i64 fr)) (p2 : w.cell? ⟨g, off + k * 4 + 2, none⟩ = some (.int .i64 dst)) (p3 : w.cell? ⟨g, off + k * 4 + 3, none⟩ = some (.slice xA xb.length xc)) :
    Calls Try.prog 25 #[.pointer (some ⟨nb, 0, none⟩), .int .i64 ix] w (DoubleOk ρ w nb s fr dst xb) := by
  have hpk := hA.pks
  have c0 : w.cell? ⟨nb, 0, none⟩ = some (.slice (some ⟨g, off, none⟩) l.length c) := hA.blk.cell 0
  have hnb := hA.blk.lt
  have hg := hpk.lt rfl
  have hll : s.ps.length ≤ 1000000 := by rw [← hA.ps]; simpa using hn1
  have HLL := Lib.hid hll
  clear hll
  go_enter Try.func25, Try.ntmps25
  go_wp2_with fail
  refine (find_any w nb _ l c0 hnb hn1 hpk ix).mono ?_
  rintro e w1 ⟨rfl, hM⟩
  rw [hix.out]
  have d0 := hM.cell c0 (fun h => h)
  have q0 := hM.cell p0 (fun h => h)
  have q1 := hM.cell p1 (fun h => h)
  have q2 := hM.cell p2 (fun h => h)
  have q3 := hM.cell p3 (fun h => h)
  have b0 : ¬ ((k : Int) < 0) := by omega
  have b1 : (k : Int) ≤ 1000000 := by omega
  have b2 : (k : Int) < (l.length : Int) := by omega
  have hgs : g < w1.heap.size := Nat.lt_of_lt_of_le hg hM.size
  clear p0 p1 p2 p3
  go_wp2_with fail
  have hMa : Mod (fun _ => False) w (w1.alloc (.cells #[.int .i64 xid, .int .i64 fr, .int .i64 dst, .slice xA xb.length xc] 90)) := hM.alloc _
  refine (send_any ρ _ nb s ⟨_, fv, l, hA.frame hMa (Ext.refl _ _) (fun _ _ _ h => h) (fun _ _ h => h)⟩ (Fit.mono hF hMa.size) hs0 hs1 HLL.out fr dst _ xb.length xb hxm ⟨_, _, rfl⟩
    ((hSl.mod hMa (fun _ _ h => h)).src Try.underlying45 (bcells_one xb)) (fun e => by have := hVc _ e; rw [hA.cn] at this; cases this)).mono ?_
  rintro e w2 ⟨rfl, ρ', r1, r2, r3, r4⟩
  go_wp2
  go_ret2
  exact ⟨rfl, ρ', r1, fun b hb => r2 b (Nat.lt_of_lt_of_le hb hMa.size), r3, Mod.trans (hMa.mono (fun _ _ x => x.elim)) r4 (fun _ _ x => x)⟩

set_option maxRecDepth 100000 in
set_option maxHeartbeats 2000000 in
theorem double_any (ρ : Col) (w : World) (nb : Nat) (s : NSt) (hN : Net ρ w nb s) (hF : Fit ρ w) (ix : Int) (hl : s.ps.length ≤ 1000000) (hs0 : 0 ≤ s.sent) (hs1 : s.sent ≤ 1000000) (hb : ∀ p ∈ s.ps, p.b.length ≤ 140737488355328) :
    Calls Try.prog 25 #[.pointer (some ⟨nb, 0, none⟩), .int .i64 ix] w (DoublePost ρ w nb s ix) := by
  obtain ⟨pv, fv, l, hA⟩ := hN
  have hll : l.length = s.ps.length := by rw [← hA.ps]; simp
  have hix := ixOf_eq (id := ix) hA.ps
  obtain ⟨A, c, rfl⟩ := hA.pks.shape'
  have c0 : w.cell? ⟨nb, 0, none⟩ = some (.slice A l.length c) := hA.blk.cell 0
  have hnb := hA.blk.lt
  have HLL := Lib.hid hll
  by_cases hlt : pixOf ix s.ps < s.ps.length
  · rw [if_pos hlt] at hix
    have hkl : pixOf ix s.ps < l.length := by rw [hll]; exact hlt
    have hx : s.ps[pixOf ix s.ps] = (l[pixOf ix s.ps]).1 := by
      have := hA.ps
      simp [← this]
    obtain ⟨g, off, cap, he, _, hcm, hg, hcell, _⟩ := hA.pks.elem pkc_len rfl (by omega) hkl
    obtain ⟨rfl, rfl⟩ : A = some ⟨g, off, none⟩ ∧ c = cap := by simpa using he
    have hmem : l[pixOf ix s.ps] ∈ l := List.getElem_mem _
    have hSl := hA.bs _ hmem
    have hVc := hA.cb _ hmem
    have hbl : (l[pixOf ix s.ps]).1.b.length ≤ 140737488355328 := hb _ (by rw [← hx]; exact List.getElem_mem _)
    generalize hxl : l[pixOf ix s.ps] = x at hx hcell hSl hVc hmem hbl
    obtain ⟨⟨xid, xfr, xdst, xb⟩, xv⟩ := x
    obtain ⟨xA, xc, hxv, hxm, hxx⟩ := hSl.shape
    simp only at hxv
    subst hxv
    have p0 := hcell 0 (by omega)
    have p1 := hcell 1 (by omega)
    have p2 := hcell 2 (by omega)
    have p3 := hcell 3 (by omega)
    simp only [pkc, List.getElem?_cons_zero, List.getElem?_cons_succ, Nat.add_zero] at p0 p1 p2 p3
    refine (double_core ρ w nb g off c (pixOf ix s.ps) s fv l hA hF ix xid xfr xdst (by rw [hll]; exact hl) hs0 hs1 xA xc xb hbl hSl hVc (Lib.hid hix) hkl p0 p1 p2 p3).mono ?_
    rintro e w' ⟨h1, h2⟩
    refine .inr ⟨hlt, h1, ?_⟩
    rw [hx]
    exact h2
  · rw [if_neg hlt] at hix
    have HIX := Lib.hid hix
    have HLT := Lib.hid hlt
    clear hix hll hlt
    go_enter Try.func25, Try.ntmps25
    go_wp2_with fail
    refine (find_any w nb _ l c0 hnb (by rw [HLL.out]; exact hl) hA.pks ix).mono ?_
    rintro e w1 ⟨rfl, hM⟩
    rw [HIX.out]
    go_wp2
    go_ret2
    exact .inl ⟨by have := HLT.out; omega, rfl, hM⟩

end Go.Proofs.Ytpbadpkleiogoaa
