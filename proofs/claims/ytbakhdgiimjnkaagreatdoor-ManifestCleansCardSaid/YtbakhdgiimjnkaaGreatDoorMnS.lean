/-
  The evaluator and what is proved of it (several texts in one).
-/
import Derived.Test.YtbakhdgiimjnkaaGreatDoorDiskEv8
import Derived.Test.YtbakhdgiimjnkaaGreatDoorFrA
import Derived.Test.YtbakhdgiimjnkaaGreatDoorManBytesEv
import Derived.Test.YtbakhdgiimjnkaaGreatDoorEvSet
/-
  manifest: what Save and Load do, at the evaluator.
-/
namespace Go.Proofs.YtbakhdgiimjnkaaGreatDoor
open Abs
set_option maxHeartbeats 16000000
set_option maxRecDepth 20000
set_option linter.unusedSimpArgs false
attribute [local irreducible] Abs.Ev Abs.EvF Abs.EvO Abs.EvA Abs.Seq Abs.Blk Abs.Body Abs.Scp Abs.EvG Abs.EvAg Abs.Nx
attribute [local go_sem] Tryz.underlying3 Ty.sz3 Ty.by3 Ty.ag3 Ty.ze3 Tryz.underlying4 Ty.sz4 Ty.by4 Ty.ag4 Ty.ze4 Tryz.underlying5 Ty.sz5 Ty.by5 Ty.ag5 Ty.ze5 Tryz.underlying9 Ty.sz9 Ty.by9 Ty.ag9 Ty.ze9 Tryz.underlying23 Ty.sz23 Ty.by23 Ty.ag23 Ty.ze23 Tryz.underlying24 Ty.sz24 Ty.by24 Ty.ag24 Ty.ze24 Tryz.underlying26 Ty.sz26 Ty.by26 Ty.ag26 Ty.ze26 Tryz.underlying28 Ty.sz28 Ty.by28 Ty.ag28 Ty.ze28 Tryz.underlying29 Ty.sz29 Ty.by29 Ty.ag29 Ty.ze29 Tryz.underlying41 Ty.sz41 Ty.by41 Ty.ag41 Ty.ze41 Tryz.underlying45 Ty.sz45 Ty.by45 Ty.ag45 Ty.ze45 Tryz.underlying59 Ty.sz59 Ty.by59 Ty.ag59 Ty.ze59 Tryz.underlying96 Ty.sz96 Ty.by96 Ty.ag96 Ty.ze96
section
variable {Sm : Summ} {Q : Ans → Prop}
def current : Nm := [109, 97, 110, 105, 102, 101, 115, 116]
def coming : Nm := [109, 97, 110, 105, 102, 101, 115, 116, 46, 116, 109, 112]
theorem good_current : GoodN current := ⟨by decide, by decide, by decide⟩
theorem good_coming : GoodN coming := ⟨by decide, by decide, by decide⟩
/-- the directory when a save has made its new file -/
def DD.com0 (d : DD) : DD := if aget d.names coming = none then d else d.chg ⟨[], none, coming⟩
def DD.com1 (d : DD) (f : Nat) : DD := d.com0.chg ⟨coming, some f, []⟩
theorem Fs.put_put (F : Fs) (i : Nat) (x y : DF) : (F.put i x).put i y = F.put i y := by
  funext j
  simp only [Fs.put]
  split <;> rfl
theorem Fs.put_at (F : Fs) (i : Nat) (x : DF) : F.put i x i = x := by simp [Fs.put]
theorem nodup_go {l : Nms} (h : (akeys l).Nodup) (c : Chg) : (akeys (c.go l)).Nodup := by
  unfold Chg.go
  have h1 : (akeys (if c.gone = [] then l else adel l c.gone)).Nodup := by
    split
    · exact h
    · exact nodup_adel h _
  cases c.file with
  | none => exact h1
  | some f => exact nodup_aput h1 _ _
theorem chg_rm (d : DD) (nm : Nm) (h : nm ≠ []) : (d.chg ⟨[], none, nm⟩).names = adel d.names nm := by
  show Chg.go d.names ⟨[], none, nm⟩ = _
  unfold Chg.go
  rw [if_neg h]
theorem chg_new (d : DD) (nm : Nm) (f : Nat) : (d.chg ⟨nm, some f, []⟩).names = aput d.names nm f := by
  show Chg.go d.names ⟨nm, some f, []⟩ = _
  unfold Chg.go
  rw [if_pos rfl]
theorem com0_names (d : DD) (hn : (akeys d.names).Nodup) : (akeys d.com0.names).Nodup ∧ aget d.com0.names coming = none ∧ d.com0.chgs.length ≤ d.chgs.length + 1 ∧ d.com0.quota = d.quota := by
  classical
  unfold DD.com0
  split
  · rename_i h
    exact ⟨hn, h, by omega, rfl⟩
  · refine ⟨nodup_go hn ⟨[], none, coming⟩, ?_, ?_, rfl⟩
    · rw [chg_rm d coming (by decide), aget_adel hn, if_pos rfl]
    · show (d.chgs ++ [_]).length ≤ _
      rw [List.length_append]
      exact Nat.le_refl _
set_option maxRecDepth 20000 in
theorem save_ev (hs : Sm 28 = none) (he : Sm 17 = none) (hb : NoBin Sm) (hn : NoDir Sm) (hf : NoFile Sm) (hm : NoMore Sm) (hr : NoFrame Sm) (hc : Sm 112 = none) (ht : Sm 71 = some sumTotal)
    {s : St} {O : Nat → Prop} {b : Nat} {d : DD} {F : Fs} {I : Nat → Prop} (hd : DkAt s O b d F I) (hwf : s.wf) (hch : d.chgs.length ≤ 999999990) (hnd : (akeys d.names).Nodup) (hq : -9000000000000000000 ≤ d.quota ∧ d.quota ≤ 9000000000000000000) (hsm : ∀ f, I f → (F f).bytes.length ≤ 35184372088832)
    (htot : ∀ f, ¬ I f → (d.com1 f).total (F.put f ⟨[], 0⟩) ≤ 1073741824) {sv : Value} {v : MV} (hv : FilesAt s sv v.files) (hvO : ∀ c, inBlk sv c → ¬ O c) (hl : v.files.length < 1000000000) (hsq : v.seq < 18446744073709551616) (hfit : (encV v).length ≤ 65536)
    (h1 : ¬ GoodV v → ∀ s', Keep s s' → Q (.val (.int .i64 1) s'))
    (h2 : GoodV v → ∀ f s' O', Mv O O' s s' → ¬ I f → DkAt s' O' b (d.com1 f) (F.put f ⟨[], 0⟩) (fun c => I c ∨ c = f) → d.quota - ((d.com1 f).total (F.put f ⟨[], 0⟩) : Int) < ((frameB (encV v)).length : Int) → Q (.val (.int .i64 5) s'))
    (h3 : GoodV v → ∀ f s' O' a y, Mv O O' s s' → ¬ I f → ((frameB (encV v)).length : Int) ≤ d.quota - ((d.com1 f).total (F.put f ⟨[], 0⟩) : Int) →
      DkAt s' O' b { quota := d.quota, names := (⟨current, some f, coming⟩ : Chg).go (d.com1 f).names, safe := (⟨current, some f, coming⟩ : Chg).go (d.com1 f).names, chgs := [], appends := a, syncs := y } (F.put f ⟨frameB (encV v), (frameB (encV v)).length⟩) (fun c => I c ∨ c = f) → Q (.val (.int .i64 0) s')) :
    Ev Tryz.prog Sm (.inv (.fn (.func 28) #[]) [.pointer (some ⟨b, 0, none⟩), verV sv v] s) Q := by
  refine Ev.func hs Tryz.func28 rfl (m := 60) rfl ?_
  simp only [Array.toList_empty, List.append_nil, ofList_cons, ofList_nil]
  obtain ⟨fs, nx, sq, lg⟩ := v
  obtain ⟨⟨a, c, rfl⟩, hsrc⟩ := id hv
  simp only at hv hsrc hl hsq
  unfold verV
  (try first | refine EvO.nx ?_ | refine EvA.nx ?_); repeat' (first | refine Abs.go ?_ | with_reducible refine Abs.fork (fun hb => ?_) (fun hb => ?_))
  have k1 := (Keep.refl hwf).new (.cells [.slice a fs.length c, .int .i64 nx, .int .u64 (sq : Int), .int .i64 lg] 26 0 false (0, 0))
  refine encode_ev he hb k1.wf (sv := .slice a fs.length c) (v := ⟨fs, nx, sq, lg⟩) (hv.mono k1.old) hl hsq (fun hng s2 k2 => ⟨_, _, rfl, ?_⟩) (fun hg bv s2 k2 t2 => ⟨_, _, rfl, ?_⟩)
  · (try first | refine EvO.nx ?_ | refine EvA.nx ?_); repeat' (first | refine Abs.go ?_ | with_reducible refine Abs.fork (fun hb => ?_) (fun hb => ?_))
    exact h1 hng _ (k1.trans k2)
  · obtain ⟨ba, bc, hbv⟩ := t2.bytes.1
    have hB2 := t2.bytes
    rw [hbv] at hB2 ⊢
    generalize encV ⟨fs, nx, sq, lg⟩ = L at *
    (try first | refine EvO.nx ?_ | refine EvA.nx ?_); repeat' (first | refine Abs.go ?_ | with_reducible refine Abs.fork (fun hb => ?_) (fun hb => ?_))
    refine fappend_ev hr hc k2.wf hB2 (by omega) (fun hx => absurd hx (by omega)) (fun _ rv s3 k3 o3 => ⟨_, _, rfl, ?_⟩)
    have hrv := o3.vec.src
    obtain ⟨hrs, ra, rc, hrv2⟩ := hrv
    subst hrv2
    have hfl := frameB_len L
    have hrO : ∀ x, inBlk (.slice ra (frameB L).length rc) x → x < s3.next ∧ ¬ O x := fun x hx => by
      have h1 := o3.lo x (o3.room x hx)
      obtain ⟨l, hl⟩ := o3.vec.kind (o3.room x hx) o3.small
      refine ⟨k3.wf _ _ hl, fun ho => ?_⟩
      have := hd.lt x ho
      have := k1.next
      have := k2.next
      omega
    generalize frameB L = R at *
    (try first | refine EvO.nx ?_ | refine EvA.nx ?_); repeat' (first | refine Abs.go ?_ | with_reducible refine Abs.fork (fun hb => ?_) (fun hb => ?_))
    have kk3 := (k1.trans k2).trans k3
    have hd3 := hd.keep kk3
    obtain ⟨c1, c2, c3, c4⟩ := com0_names d hnd
    have rem : ∀ Q' : Ans → Prop, (∀ n s4 O0, (n = 4 ∨ n = 0) → Mv O O0 s3 s4 → DkAt s4 O0 b d.com0 F I → Q' (.val (.int .i64 n) s4)) → Ev Tryz.prog Sm (.inv (.fn (.func 61) #[]) [.pointer (some ⟨b, 0, none⟩), .string ⟨⟨coming⟩⟩] s3) Q' := fun Q' h => by
      refine remove_ev hn hd3 k3.wf (by omega) (fun hx => h 4 s3 O (.inl rfl) (Mv.refl k3.wf) (by unfold DD.com0; rw [if_pos hx]; exact hd3)) fun hx s4 O0 mv dk => h 0 s4 O0 (.inr rfl) mv (by unfold DD.com0; rw [if_neg hx]; exact dk)
    refine rem _ fun n s4 O0 hn4 mv4 hd4 => ⟨_, _, rfl, ?_⟩
    rcases hn4 with rfl | rfl
    all_goals (
      (try first | refine EvO.nx ?_ | refine EvA.nx ?_); repeat' (first | refine Abs.go ?_ | with_reducible refine Abs.fork (fun hb => ?_) (fun hb => ?_))
      refine create_ev hn hd4 mv4.wf (by omega) (nm := coming) (by decide) (fun hx => absurd good_coming hx) (fun _ hx => absurd c2 hx) (fun _ _ f s5 O5 mv5 hI5 hd5 => ⟨_, _, rfl, ?_⟩)
      have mv35 := mv4.trans k3.wf mv5
      have hB5 : BytesB s5 (.slice ra R.length rc) R := ⟨⟨_, _, rfl⟩, src_mono (s := s3) (fun x y hx hy => mv35.old x y (hrO x hx).2 hy) hrs⟩
      (try first | refine EvO.nx ?_ | refine EvA.nx ?_); repeat' (first | refine Abs.go ?_ | with_reducible refine Abs.fork (fun hb => ?_) (fun hb => ?_))
      have e1 : aget (d.com1 f).names coming = some f := by
        classical
        unfold DD.com1
        rw [chg_new, aget_aput, if_pos rfl]
      have hnd1 : (akeys (d.com1 f).names).Nodup := nodup_go c1 ⟨coming, some f, []⟩
      have hsm1 : ∀ g, (I g ∨ g = f) → (F.put f ⟨[], 0⟩ g).bytes.length ≤ 35184372088832 := fun g hg => by
        by_cases e : g = f
        · subst e; rw [Fs.put_at]; exact Nat.zero_le _
        · simp only [Fs.put, if_neg e]; exact hsm g (hg.resolve_right e)
      have hrO5 : ∀ x, inBlk (.slice ra R.length rc) x → ¬ O5 x := fun x hx ho => (mv35.new x ho).elim (hrO x hx).2 fun h => by have := (hrO x hx).1; omega
      refine dappend_ev hf ht (d := d.com1 f) hd5 mv5.wf hnd1 (htot f hI5) (by rw [show (d.com1 f).quota = d.quota from c4]; exact hq) (nm := coming) hB5 (by omega) hsm1 hrO5 (fun hx => by rw [e1] at hx; cases hx) (fun _ hx => ⟨_, _, rfl, ?_⟩) (fun f' hf' hx s6 O6 y6 mv6 hd6 => ⟨_, _, rfl, ?_⟩)
      · (try first | refine EvO.nx ?_ | refine EvA.nx ?_); repeat' (first | refine Abs.go ?_ | with_reducible refine Abs.fork (fun hb => ?_) (fun hb => ?_))
        rw [show (d.com1 f).quota = d.quota from c4] at hx
        exact h2 hg f _ O5 ((Mv.ofKeep kk3).trans hwf mv35) hI5 hd5 hx
      · obtain rfl : f = f' := by rw [e1] at hf'; exact Option.some.inj hf'
        rw [show (d.com1 f).quota = d.quota from c4] at hx
        rw [Fs.put_put, Fs.put_at, List.nil_append] at hd6
        (try first | refine EvO.nx ?_ | refine EvA.nx ?_); repeat' (first | refine Abs.go ?_ | with_reducible refine Abs.fork (fun hb => ?_) (fun hb => ?_))
        refine dsync_ev hf hd6 mv6.wf (nm := coming) (fun hx' => by rw [show aget ({ d.com1 f with appends := y6 } : DD).names coming = some f from e1] at hx'; cases hx') (fun f' hf' s7 y7 mv7 hd7 => ⟨_, _, rfl, ?_⟩)
        obtain rfl : f = f' := by rw [show aget ({ d.com1 f with appends := y6 } : DD).names coming = some f from e1] at hf'; exact Option.some.inj hf'
        rw [Fs.put_put, Fs.put_at] at hd7
        (try first | refine EvO.nx ?_ | refine EvA.nx ?_); repeat' (first | refine Abs.go ?_ | with_reducible refine Abs.fork (fun hb => ?_) (fun hb => ?_))
        have hch7 : ({ ({ d.com1 f with appends := y6 } : DD) with syncs := y7 } : DD).chgs.length ≤ 1000000000 := by
          show (d.com0.chgs ++ [_]).length ≤ _
          rw [List.length_append, List.length_singleton]
          omega
        refine rename_ev hn hd7 mv7.wf hch7 (old := coming) (to := current) (by decide) (fun hx' => by rw [show aget ({ ({ d.com1 f with appends := y6 } : DD) with syncs := y7 } : DD).names coming = some f from e1] at hx'; cases hx') (fun hx' => absurd good_current hx') (fun f' hf' _ s8 O8 mv8 hd8 => ⟨_, _, rfl, ?_⟩)
        obtain rfl : f = f' := by rw [show aget ({ ({ d.com1 f with appends := y6 } : DD) with syncs := y7 } : DD).names coming = some f from e1] at hf'; exact Option.some.inj hf'
        (try first | refine EvO.nx ?_ | refine EvA.nx ?_); repeat' (first | refine Abs.go ?_ | with_reducible refine Abs.fork (fun hb => ?_) (fun hb => ?_))
        refine syncDir_ev hf hm hd8 mv8.wf fun s9 O9 y9 mv9 hd9 => ⟨_, _, rfl, ?_⟩
        (try first | refine EvO.nx ?_ | refine EvA.nx ?_); repeat' (first | refine Abs.go ?_ | with_reducible refine Abs.fork (fun hb => ?_) (fun hb => ?_))
        have mvf := (((((Mv.ofKeep kk3).trans hwf mv35).trans hwf mv6).trans hwf mv7).trans hwf mv8).trans hwf mv9
        have hd9' : DkAt s9 O9 b { quota := d.quota, names := (⟨current, some f, coming⟩ : Chg).go (d.com1 f).names, safe := (⟨current, some f, coming⟩ : Chg).go (d.com1 f).names, chgs := [], appends := y6, syncs := y9 } (F.put f ⟨R, R.length⟩) (fun c => I c ∨ c = f) := by
          have hq4 : d.com0.quota = d.quota := c4
          rw [← hq4]
          exact hd9
        exact h3 hg f _ O9 y6 y9 mvf hI5 hx hd9')
/-- files, when a block that holds none turns -/
theorem files_over {s s' : St} {v : Value} {fs : List MF} (h : FilesAt s v fs) {b : Nat} {l l' : List Value} {e e' : TypeId} {sz sz' : Nat} {op op' : Bool} {fz fz' : Nat × Nat} (hb : s.heap.get b = some (.cells l e sz op fz)) (hb' : s'.heap.get b = some (.cells l' e' sz' op' fz')) (h4 : l.length = 4) (hl : l[0]? = some (.slice none 0 0))
    (hk : ∀ c x, c ≠ b → s.heap.get c = some x → s'.heap.get c = some x) : FilesAt s' v fs := by
  obtain ⟨a, c, rfl⟩ := h.is
  have hsrc := h.src
  refine ⟨⟨a, c, rfl⟩, ?_⟩
  cases a with
  | none => exact hsrc
  | some a =>
    obtain ⟨b', o, sp⟩ := a
    cases sp with
    | some _ => cases hsrc
    | none =>
      by_cases hbb : b' = b
      · subst hbb
        obtain ⟨w, hw, hcut, hlen⟩ := src_parts hsrc
        rw [hb] at hw
        obtain rfl : l = w := by cases hw; rfl
        cases fs with
        | nil =>
          show (match s'.heap.get b' with
            | some (.cells l _ _ _ _) => (Rs.of 75 (cutN l o (0 * 4))).bind fun cs => Rs.ok (0, cs)
            | some (.const l _) => (Rs.of 75 (cutN l o (0 * 4))).bind fun cs => Rs.ok (0, cs)
            | _ => .no 75 "") = _
          rw [hb']
          show (Rs.of 75 (cutN l' o (0 * 4))).bind _ = _
          rw [cutN_eq, if_pos (by omega)]
          rfl
        | cons f r =>
          exfalso
          rw [List.length_cons] at hlen hcut
          have ho : o = 0 := by omega
          subst ho
          have := congrArg (fun l => l[0]?) hcut
          rw [List.drop_zero] at this
          simp only [List.getElem?_take] at this
          rw [if_pos (by omega), hl] at this
          cases this
      · exact src_mono (fun x y hx hy => hk x y (by obtain ⟨o', n', c', e⟩ := hx; cases e; exact hbb) hy) hsrc
attribute [local go_sem] ver_zero cut4
theorem load0_ev (hs : Sm 21 = none) (hf : NoFile Sm) {s : St} {O : Nat → Prop} {b : Nat} {d : DD} {F : Fs} {I : Nat → Prop} (hd : DkAt s O b d F I) (hwf : s.wf) (hsm : ∀ f, I f → (F f).bytes.length ≤ 35184372088832) (ha : aget d.names current = none)
    (h : ∀ s', Keep s s' → Q (.val (.tuple #[verV (.slice none 0 0) ⟨[], 0, 0, 0⟩, .int .i64 4]) s')) :
    Ev Tryz.prog Sm (.inv (.fn (.func 21) #[]) [.pointer (some ⟨b, 0, none⟩)] s) Q := by
  refine Ev.func hs Tryz.func21 rfl (m := 44) rfl ?_
  simp only [Array.toList_empty, List.append_nil, ofList_cons, ofList_nil]
  (try first | refine EvO.nx ?_ | refine EvA.nx ?_); repeat' (first | refine Abs.go ?_ | with_reducible refine Abs.fork (fun hb => ?_) (fun hb => ?_))
  have k1 := (Keep.refl hwf).new (.cells [.slice none 0 0, .int .i64 0, .int .u64 0, .int .i64 0] 26 0 false (0, 0))
  refine dread_ev hf (hd.keep k1) k1.wf (nm := current) hsm (fun _ => ⟨_, _, rfl, ?_⟩) (fun f hf' => by rw [ha] at hf'; cases hf')
  (try first | refine EvO.nx ?_ | refine EvA.nx ?_); repeat' (first | refine Abs.go ?_ | with_reducible refine Abs.fork (fun hb => ?_) (fun hb => ?_))
  refine h _ ?_
  have hwf := hwf
  ((repeat (refine Abs.Keep.set2 ?_ (by omega) (by omega) hwf)); exact Abs.Keep.grow (Keep.refl hwf) (by omega))
set_option maxRecDepth 20000 in
theorem load1_ev (hs : Sm 21 = none) (he : Sm 18 = none) (he2 : Sm 17 = none) (hbin : NoBin Sm) (hf : NoFile Sm) (hr : NoFrame Sm) (hc : Sm 112 = none) {s : St} {O : Nat → Prop} {b : Nat} {d : DD} {F : Fs} {I : Nat → Prop} (hd : DkAt s O b d F I) (hwf : s.wf) (hsm : ∀ f, I f → (F f).bytes.length ≤ 35184372088832)
    {f : Nat} {v : MV} (ha : aget d.names current = some f) (hF : (F f).bytes = frameB (encV v)) (hg : GoodV v) (hsq : v.seq < 18446744073709551616) (hfit : (encV v).length ≤ 65536)
    (h : ∀ fv s', Keep s s' → FilesAt s' fv v.files → (∀ c, inBlk fv c → s.next ≤ c) → Q (.val (.tuple #[verV fv v, .int .i64 0]) s')) :
    Ev Tryz.prog Sm (.inv (.fn (.func 21) #[]) [.pointer (some ⟨b, 0, none⟩)] s) Q := by
  refine Ev.func hs Tryz.func21 rfl (m := 44) rfl ?_
  simp only [Array.toList_empty, List.append_nil, ofList_cons, ofList_nil]
  (try first | refine EvO.nx ?_ | refine EvA.nx ?_); repeat' (first | refine Abs.go ?_ | with_reducible refine Abs.fork (fun hb => ?_) (fun hb => ?_))
  have k1 := (Keep.refl hwf).new (.cells [.slice none 0 0, .int .i64 0, .int .u64 0, .int .i64 0] 26 0 false (0, 0))
  have hres1 := get_same s.heap s.next (AObj.cells [.slice none 0 0, .int .i64 0, .int .u64 0, .int .i64 0] 26 0 false (0, 0))
  refine dread_ev hf (hd.keep k1) k1.wf (nm := current) hsm (fun hx => by rw [ha] at hx; cases hx) (fun f' hf' rv s2 k2 t2 => ⟨_, _, rfl, ?_⟩)
  obtain rfl : f = f' := by rw [ha] at hf'; exact Option.some.inj hf'
  rw [hF] at t2
  have hfl := frameB_len (encV v)
  have hsc := scanB_frame hfit (sumN_lt (le32 (encV v).length) (encV v)) []
  rw [List.append_nil, scanB_nil] at hsc
  have hdo := decOk_enc hg hsq
  generalize hL : encV v = L at *
  have hrv := t2.bytes.1
  have hres2 := k2.old _ _ hres1
  (try first | refine EvO.nx ?_ | refine EvA.nx ?_); repeat' (first | refine Abs.go ?_ | with_reducible refine Abs.fork (fun hb => ?_) (fun hb => ?_))
  refine scan_ev hr hc k2.wf t2 (by omega) fun pv s3 k3 r3 => ⟨_, _, rfl, ?_⟩
  rw [hsc] at r3 ⊢
  obtain ⟨vs, o3, t3⟩ := r3
  obtain ⟨x, rfl⟩ : ∃ x, vs = [x] := by
    have := t3.1
    match vs, this with
    | [x], _ => exact ⟨x, rfl⟩
  have hx := t3.2 0 x L rfl rfl
  have hres3 := k3.old _ _ hres2
  obtain ⟨xa, xc, hxv⟩ := hx.bytes.1
  have ho : ∃ pb po, pv = .slice (some ⟨pb, po, none⟩) 1 open_ := by
    obtain ⟨_, pa, pc, hpv⟩ := o3.vec.src
    have hpv' : pv = .slice pa 1 pc := hpv
    subst hpv'
    cases pa with
    | none => exact absurd o3.vec.src.1 (by intro e; cases e)
    | some q =>
      obtain ⟨pb, po, sp⟩ := q
      cases sp with
      | some _ => exact absurd o3.vec.src.1 (by intro e; cases e)
      | none =>
        obtain ⟨o', n', e⟩ := o3.room pb ⟨_, _, _, rfl⟩
        cases e
        exact ⟨_, _, rfl⟩
  obtain ⟨pb, po, rfl⟩ := ho
  obtain ⟨w, hpb, hp0, hp1, hp2⟩ := Abs.Vec.open o3.vec (by decide)
  have hw0 : w[po]? = some x := by
    have := congrArg (fun l => l[0]?) hp2
    simpa using this
  subst hxv
  (try first | refine EvO.nx ?_ | refine EvA.nx ?_); repeat' (first | refine Abs.goH (Abs.cc hpb (hw0)) ?_ | with_reducible refine Abs.fork (fun hb => ?_) (fun hb => ?_))
  refine decode2_ev he he2 hbin k3.wf hx.bytesC (by omega) (fun hnd => absurd hdo.1 hnd) (fun _ fv s4 k4 hf4 lo4 => ⟨_, _, rfl, ?_⟩)
  rw [hdo.2] at hf4 ⊢
  have hres4 := k4.old _ _ hres3
  obtain ⟨fs, nx, sq, lg⟩ := v
  obtain ⟨fva, fvc, rfl⟩ := hf4.is
  unfold verV
  have hl4 := k4.wf _ _ hres4
  (try first | refine EvO.nx ?_ | refine EvA.nx ?_); repeat' (first | refine Abs.goH hres4 ?_ | with_reducible refine Abs.fork (fun hb => ?_) (fun hb => ?_))
  have hk4 : Keep s s4 := ((k1.trans k2).trans k3).trans k4
  have hwf := hwf
  refine h _ _ ?_ (files_over hf4 hres4 (get_same _ _ _) rfl rfl fun c x hc hx => ?_) (fun c hc => Nat.le_trans ((k1.trans k2).trans k3).next (lo4 c hc))
  · ((repeat (refine Abs.Keep.set2 ?_ (by omega) (by omega) hwf)); exact Abs.Keep.grow hk4 (by omega))
  · have hc4 := k4.wf _ _ hx
    show ((((s4.heap.set s4.next _).set s4.next _).set s.next _).get c) = some x
    rw [get_other _ _ _ _ hc, get_other _ _ _ _ (by omega), get_other _ _ _ _ (by omega)]
    exact hx
end
end Go.Proofs.YtbakhdgiimjnkaaGreatDoor

/-
  Versions on a disk, plain: what saves and crashes leave. No program in sight.
-/
namespace Go.Proofs.YtbakhdgiimjnkaaGreatDoor
open Abs
noncomputable section
theorem pickN_one (picks : List Int) (i : Nat) : pickN picks i 1 = 0 := by
  have := pickN_lt picks i 1 (by decide)
  omega
theorem cutF_same (picks : List Int) (i : Nat) {f : DF} (h : f.safe = f.bytes.length) : cutF picks i f = f := by
  obtain ⟨b, n⟩ := f
  simp only at h
  subst h
  unfold cutF
  rw [Nat.sub_self, pickN_one]
  simp
theorem Fs.put_self (F : Fs) (i : Nat) : F.put i (F i) = F := by
  funext j
  simp only [Fs.put]
  split
  · rename_i h; rw [h]
  · rfl
theorem cutFs_same (picks : List Int) (l : Nms) (F : Fs) (h : ∀ k f, aget l k = some f → (F f).safe = (F f).bytes.length) : ∀ (ks : List Nm) (i : Nat), cutFs picks l ks i F = F
  | [], _ => rfl
  | k :: ks, i => by
    unfold cutFs
    split
    · exact cutFs_same picks l F h ks (i + 1)
    · rename_i f hf
      rw [cutF_same picks i (h k f hf), Fs.put_self]
      exact cutFs_same picks l F h ks (i + 1)
/-- a version's file -/
def verF (v : MV) : DF := ⟨frameB (encV v), (frameB (encV v)).length⟩
/-- names of one file or of two -/
inductive Two (F : Fs) (g : Nat) : Nms → Prop where
  | one : Two F g [(current, g)]
  | two {f : Nat} (h : g ≠ f) (hf : F f = ⟨[], 0⟩) : Two F g [(current, g), (coming, f)]
/-- a disk that holds a version, whatever a crash does -/
inductive Stable (d : DD) (F : Fs) (v : MV) : Prop where
  | calm {g : Nat} (hg : F g = verF v) (hc : d.chgs = []) (hn : d.names = d.safe) (hs : Two F g d.safe)
  | half {g f : Nat} (hg : F g = verF v) (h : g ≠ f) (hf : F f = ⟨[], 0⟩) (hs : d.safe = [(current, g)]) (hc : d.chgs = [⟨coming, some f, []⟩]) (hn : d.names = [(current, g), (coming, f)])
theorem Two.cur {F : Fs} {g : Nat} {l : Nms} (h : Two F g l) : aget l current = some g := by cases h <;> rfl
theorem Two.files {F : Fs} {g : Nat} {l : Nms} {v : MV} (h : Two F g l) (hg : F g = verF v) : ∀ k f, aget l k = some f → (F f).safe = (F f).bytes.length := by
  intro k f hf
  have := aget_mem hf
  cases h with
  | one =>
    simp only [List.mem_singleton, Prod.mk.injEq] at this
    rw [this.2, hg]
    rfl
  | two h hf' =>
    simp only [List.mem_cons, Prod.mk.injEq, List.mem_nil_iff, or_false] at this
    rcases this with ⟨_, rfl⟩ | ⟨_, rfl⟩
    · rw [hg]; rfl
    · rw [hf']; rfl
theorem Two.small {F : Fs} {g : Nat} {l : Nms} (h : Two F g l) : (akeys l).Nodup ∧ l.length ≤ 2 ∧ ∀ k ∈ akeys l, k.length ≤ 12 := by
  cases h with
  | one => exact ⟨by simp [akeys], by simp, by simp [akeys, current]⟩
  | two => exact ⟨by simp [akeys, current, coming], by simp, by simp [akeys, current, coming]⟩
theorem Stable.kept {d : DD} {F : Fs} {v : MV} (h : Stable d F v) (picks : List Int) : ∃ g, F g = verF v ∧ Two F g (d.kept picks) := by
  cases h with
  | @calm g hg hc hn hs =>
    refine ⟨g, hg, ?_⟩
    unfold DD.kept
    rw [hc]
    simpa using hs
  | @half g f hg h hf hs hc hn =>
    refine ⟨g, hg, ?_⟩
    unfold DD.kept
    rw [hc, hs]
    have := pickN_lt picks 0 2 (by decide)
    show Two F g ((List.take (pickN picks 0 2) [⟨coming, some f, []⟩]).foldl Chg.go [(current, g)])
    rcases Nat.lt_or_ge (pickN picks 0 2) 1 with h0 | h0
    · rw [show pickN picks 0 2 = 0 by omega]
      exact .one
    · rw [show pickN picks 0 2 = 1 by omega]
      exact .two h hf
theorem Stable.crashF {d : DD} {F : Fs} {v : MV} (h : Stable d F v) (picks : List Int) : d.crashF picks F = F := by
  obtain ⟨g, hg, ht⟩ := h.kept picks
  exact cutFs_same picks _ F (ht.files hg) _ _
theorem Stable.crash {d : DD} {F : Fs} {v : MV} (h : Stable d F v) (picks : List Int) : Stable (d.crash picks) F v := by
  obtain ⟨g, hg, ht⟩ := h.kept picks
  exact .calm hg rfl rfl ht
theorem Stable.cur {d : DD} {F : Fs} {v : MV} (h : Stable d F v) : ∃ g, aget d.names current = some g ∧ (F g).bytes = frameB (encV v) := by
  cases h with
  | @calm g hg hc hn hs => exact ⟨g, by rw [hn]; exact hs.cur, by rw [hg]; rfl⟩
  | @half g f hg h hf hs hc hn => exact ⟨g, by rw [hn]; rfl, by rw [hg]; rfl⟩
/-- the directory behind a save of a disk that holds no version or one -/
theorem com1_none (d : DD) (f : Nat) (h : d.names = []) : (d.com1 f).names = [(coming, f)] := by
  unfold DD.com1
  have : aget d.names coming = none := by rw [h]; rfl
  unfold DD.com0
  rw [if_pos this, chg_new, h]
  rfl
theorem com1_one (d : DD) (f g : Nat) (h : d.names = [(current, g)]) : (d.com1 f).names = [(current, g), (coming, f)] ∧ (d.com1 f).chgs = d.chgs ++ [⟨coming, some f, []⟩] ∧ (d.com1 f).safe = d.safe := by
  unfold DD.com1
  have : aget d.names coming = none := by rw [h]; rfl
  unfold DD.com0
  rw [if_pos this]
  refine ⟨?_, rfl, rfl⟩
  rw [chg_new, h]
  rfl
theorem go_none (f : Nat) : (⟨current, some f, coming⟩ : Chg).go [(coming, f)] = [(current, f)] := rfl
theorem go_one (f g : Nat) : (⟨current, some f, coming⟩ : Chg).go [(current, g), (coming, f)] = [(current, f)] := rfl
end
end Go.Proofs.YtbakhdgiimjnkaaGreatDoor

/-
  manifest's laws: their disk, held apart from their own values; what a save, a load, a crash do of it at the evaluator.
-/
namespace Go.Proofs.YtbakhdgiimjnkaaGreatDoor
open Abs
section
variable {Sm : Summ} {Q : Ans → Prop}
structure Held (s0 s : St) (O : Nat → Prop) (b : Nat) (d : DD) (F : Fs) : Prop where
  at_ : ∃ I, DkAt s O b d F I ∧ (∀ c, O c → s0.next ≤ c) ∧ ∀ f, I f → (F f).safe ≤ (F f).bytes.length ∧ (F f).bytes.length ≤ 1048576
  keep : Keep s0 s
theorem Held.old {s0 s s' : St} {O : Nat → Prop} {b : Nat} {d : DD} {F : Fs} (h : Held s0 s O b d F) (k : Keep s s') : Held s0 s' O b d F := by
  obtain ⟨I, h1, h2, h3⟩ := h.at_
  exact ⟨⟨I, h1.keep k, h2, h3⟩, h.keep.trans k⟩
theorem Held.lt {s0 s : St} {O : Nat → Prop} {b : Nat} {d : DD} {F : Fs} (h : Held s0 s O b d F) {c : Nat} (hc : O c) : c < s.next := by
  obtain ⟨I, h1, _, _⟩ := h.at_
  exact h1.lt c hc
theorem FilesAt.lt {s : St} (hwf : s.wf) {v : Value} {l : List MF} (h : FilesAt s v l) {x : Nat} (hx : inBlk v x) : x < s.next := by
  obtain ⟨⟨a, c, rfl⟩, h1⟩ := h
  obtain ⟨o', m', c', e⟩ := hx
  cases e
  obtain ⟨w, hw, _, _⟩ := src_parts h1
  cases hg : s.heap.get x with
  | none => rw [hg] at hw; cases hw
  | some y => exact hwf x y hg
theorem FilesAt.mv {s s' : St} {O O' : Nat → Prop} (mv : Mv O O' s s') {v : Value} {l : List MF} (h : FilesAt s v l) (ho : ∀ c, inBlk v c → ¬ O c) : FilesAt s' v l := by
  obtain ⟨a, c, rfl⟩ := h.is
  exact ⟨⟨a, c, rfl⟩, src_mono (fun x y hx hy => mv.old x y (ho x hx) hy) h.src⟩
def OnlyMan (F : Fs) (l : Nms) : Option MV → Prop
  | none => l = []
  | some v => ∃ g, l = [(current, g)] ∧ F g = verF v
/-- a disk with one manifest or none -/
structure Calm (q : Int) (d : DD) (F : Fs) (u : Option MV) : Prop where
  quota : d.quota = q
  chgs : d.chgs = []
  safe : d.names = d.safe
  names : OnlyMan F d.safe u
theorem Calm.stable {q : Int} {d : DD} {F : Fs} {v : MV} (h : Calm q d F (some v)) : Stable d F v := by
  obtain ⟨g, h1, h2⟩ := h.names
  exact .calm h2 h.chgs h.safe (by rw [h1]; exact .one)
theorem Calm.kept {q : Int} {d : DD} {F : Fs} {u : Option MV} (h : Calm q d F u) (picks : List Int) : d.kept picks = d.safe := by
  unfold DD.kept
  rw [h.chgs]
  simp
theorem verF_len (v : MV) : (verF v).bytes.length = 8 + (encV v).length := frameB_len _
theorem Calm.total {q : Int} {d : DD} {F : Fs} {v : MV} (h : Calm q d F (some v)) : d.total F = 8 + (encV v).length := by
  obtain ⟨g, h1, h2⟩ := h.names
  unfold DD.total
  rw [h.safe, h1]
  show (F g).bytes.length + 0 = _
  rw [h2, verF_len]
  omega
structure NoMan (Sm : Summ) : Prop where
  bin : NoBin Sm
  dir : NoDir Sm
  file : NoFile Sm
  more : NoMore Sm
  frame : NoFrame Sm
  save : Sm 28 = none
  load : Sm 21 = none
  encode : Sm 17 = none
  decode : Sm 18 = none
  crc : Sm 112 = none
  total : Sm 71 = some sumTotal
  stat : Sm 30 = none
  pick : Sm 65 = none
  do_ : Sm 66 = none
  crash : Sm 27 = none
theorem hnew_ev (n : NoMan Sm) {s : St} (hwf : s.wf) {q : Int} (hq : 0 ≤ q) (h : ∀ s' O b d F, Held s s' O b d F → Calm q d F none → Q (.val (.tuple #[.pointer (some ⟨b, 0, none⟩), .int .i64 0]) s')) :
    Ev Tryz.prog Sm (.inv (.fn (.func 19) #[]) [.int .i64 q] s) Q :=
  dnew_ev n.dir.new hwf hq fun s' O b k ho hd => h s' O b _ _ ⟨⟨_, hd, ho, fun _ h => h.elim⟩, k⟩ ⟨rfl, rfl, rfl, rfl⟩
theorem hsave_ev (n : NoMan Sm) {s0 s : St} (h0 : s0.wf) {O : Nat → Prop} {b : Nat} {d : DD} {F : Fs} (hh : Held s0 s O b d F) {q : Int} {u : Option MV} (hp : Calm q d F u) (hq : 0 ≤ q ∧ q ≤ 1000000000) {sv : Value} {v : MV} (hv : FilesAt s0 sv v.files) (hg : GoodV v) (hl : v.files.length ≤ 60) (hsq : v.seq < 18446744073709551616)
    (hu : u = none → 1000000 ≤ q) (hu2 : ∀ w, u = some w → (encV w).length ≤ 65536)
    (h5 : ∀ w s' O' d' F', u = some w → Mv O O' s s' → Held s0 s' O' b d' F' → Stable d' F' w → q < 8 + ((encV w).length : Int) + (8 + ((encV v).length : Int)) → Q (.val (.int .i64 5) s'))
    (h6 : ∀ s' O' d' F', Mv O O' s s' → Held s0 s' O' b d' F' → Calm q d' F' (some v) → Q (.val (.int .i64 0) s')) :
    Ev Tryz.prog Sm (.inv (.fn (.func 28) #[]) [.pointer (some ⟨b, 0, none⟩), verV sv v] s) Q := by
  obtain ⟨I, hd, ho, hI⟩ := hh.at_
  have hle := encV_le hg hsq
  have hfl := frameB_len (encV v)
  have hO : ∀ c, inBlk sv c → ¬ O c := fun c hc ho' => by
    have h1 := ho c ho'
    have h2 := FilesAt.lt h0 hv hc
    omega
  have key : ∀ f, ¬ I f → (d.com1 f).total (F.put f ⟨[], 0⟩) = (match u with | none => 0 | some w => 8 + (encV w).length) ∧ (∀ w, u = some w → Stable (d.com1 f) (F.put f ⟨[], 0⟩) w) ∧ (⟨current, some f, coming⟩ : Chg).go (d.com1 f).names = [(current, f)] := fun f hf => by
    cases u with
    | none =>
      have e : d.names = [] := hp.safe.trans hp.names
      refine ⟨?_, (fun w hw => by cases hw), ?_⟩
      · unfold DD.total
        rw [com1_none d f e]
        show ((F.put f ⟨[], 0⟩) f).bytes.length + 0 = 0
        rw [Fs.put_at]
        rfl
      · rw [com1_none d f e]
        rfl
    | some w =>
      obtain ⟨g, e1, e2⟩ := hp.names
      have e : d.names = [(current, g)] := hp.safe.trans e1
      obtain ⟨c1, c2, c3⟩ := com1_one d f g e
      have hgf : g ≠ f := fun e' => hf (e' ▸ hd.inN (current, g) (by rw [e]; exact List.mem_singleton_self _))
      have e3 : (F.put f ⟨[], 0⟩) g = verF w := by simp only [Fs.put, if_neg hgf]; exact e2
      refine ⟨?_, fun w' hw => ?_, ?_⟩
      · unfold DD.total
        rw [c1]
        show ((F.put f ⟨[], 0⟩) g).bytes.length + (((F.put f ⟨[], 0⟩) f).bytes.length + 0) = _
        rw [Fs.put_at, e3, verF_len]
        rfl
      · cases hw
        exact .half e3 hgf (Fs.put_at _ _ _) (by rw [c3, e1]) (by rw [c2, hp.chgs]; rfl) c1
      · rw [c1]
        rfl
  have szs : ∀ f (x : DF), x.safe ≤ x.bytes.length → x.bytes.length ≤ 1048576 → ∀ c, (I c ∨ c = f) → ((F.put f x) c).safe ≤ ((F.put f x) c).bytes.length ∧ ((F.put f x) c).bytes.length ≤ 1048576 := fun f x h1 h2 c hc => by
    by_cases e : c = f
    · subst e; rw [Fs.put_at]; exact ⟨h1, h2⟩
    · simp only [Fs.put, if_neg e]; exact hI c (hc.resolve_right e)
  have held : ∀ s' O' d' F' I', Mv O O' s s' → DkAt s' O' b d' F' I' → (∀ c, I' c → (F' c).safe ≤ (F' c).bytes.length ∧ (F' c).bytes.length ≤ 1048576) → Held s0 s' O' b d' F' := fun s' O' d' F' I' mv hd' hI' =>
    ⟨⟨I', hd', fun c hc => (mv.new c hc).elim (ho c) fun h => Nat.le_trans hh.keep.next h, hI'⟩, mv.keep hh.keep ho h0⟩
  refine save_ev n.save n.encode n.bin n.dir n.file n.more n.frame n.crc n.total hd hh.keep.wf (by rw [hp.chgs]; decide) ?_ (by rw [hp.quota]; omega) (fun f hf => Nat.le_trans (hI f hf).2 (by decide)) (fun f hf => ?_) (hv.mono hh.keep.old) hO (by omega) hsq (by omega) (fun hx => absurd hg hx) ?_ ?_
  · rw [hp.safe]
    cases u with
    | none => rw [show d.safe = [] from hp.names]; exact List.nodup_nil
    | some w => obtain ⟨g, e1, _⟩ := hp.names; rw [e1]; simp [akeys]
  · rw [(key f hf).1]
    cases u with
    | none => exact Nat.zero_le _
    | some w => have := hu2 w rfl; show 8 + _ ≤ _; omega
  · intro _ f s' O' mv hf hd' hlt
    obtain ⟨k1, k2, _⟩ := key f hf
    rw [k1, hp.quota, hfl] at hlt
    cases u with
    | none => exfalso; have := hu rfl; have hlt : q - ((0 : Nat) : Int) < ((8 + (encV v).length : Nat) : Int) := hlt; omega
    | some w =>
      have hlt : q - ((8 + (encV w).length : Nat) : Int) < ((8 + (encV v).length : Nat) : Int) := hlt
      exact h5 w s' O' _ _ rfl mv (held s' O' _ _ _ mv hd' (szs f _ (Nat.le_refl _) (Nat.zero_le _))) (k2 w rfl) (by omega)
  · intro _ f s' O' a y mv hf _ hd'
    obtain ⟨_, _, k3⟩ := key f hf
    rw [k3] at hd'
    exact h6 s' O' _ _ mv (held s' O' _ _ _ mv hd' (szs f _ (Nat.le_refl _) (by show (frameB _).length ≤ _; omega))) ⟨hp.quota, rfl, rfl, f, rfl, Fs.put_at _ _ _⟩
theorem hcrash_ev (n : NoMan Sm) {s0 s : St} (h0 : s0.wf) {O : Nat → Prop} {b : Nat} {d : DD} {F : Fs} (hh : Held s0 s O b d F) {v : MV} (hp : Stable d F v) {pv : Value} {picks : List Int} (hv : IntsB s0 pv picks)
    (h : ∀ s' O', Mv O O' s s' → Held s0 s' O' b (d.crash picks) F → Q (.val (.tuple #[]) s')) :
    Ev Tryz.prog Sm (.inv (.fn (.func 27) #[]) [.pointer (some ⟨b, 0, none⟩), pv] s) Q := by
  obtain ⟨I, hd, ho, hI⟩ := hh.at_
  obtain ⟨g, _, ht⟩ := hp.kept picks
  obtain ⟨t1, t2, t3⟩ := ht.small
  have hO : ∀ c, inBlk pv c → ¬ O c := fun c hc ho' => by
    have h1 := ho c ho'
    have h2 := hv.lt h0 hc
    omega
  refine crash1_ev n.more n.file n.pick n.do_ n.crash hd hh.keep.wf (hv.mono fun c x _ => hh.keep.old c x) hO ?_ t1 (by omega) (fun k hk => Nat.le_trans (t3 k hk) (by decide)) (fun f hf => ⟨(hI f hf).1, Nat.le_trans (hI f hf).2 (by decide)⟩) fun s' O' mv hd' => ?_
  · cases hp with
    | calm _ hc _ _ => rw [hc]; decide
    | half _ _ _ _ hc _ => rw [hc]; exact (by decide : (1 : Nat) ≤ 1000000000)
  · rw [hp.crashF] at hd'
    exact h s' O' mv ⟨⟨I, hd', fun c hc => (mv.new c hc).elim (ho c) fun h => Nat.le_trans hh.keep.next h, hI⟩, mv.keep hh.keep ho h0⟩
theorem Calm.crash {q : Int} {d : DD} {F : Fs} {u : Option MV} (h : Calm q d F u) (picks : List Int) : Calm q (d.crash picks) F u := by
  refine ⟨h.quota, rfl, rfl, ?_⟩
  show OnlyMan F (d.kept picks) u
  rw [h.kept picks]
  exact h.names
theorem hload_ev (n : NoMan Sm) {s0 s : St} {O : Nat → Prop} {b : Nat} {d : DD} {F : Fs} (hh : Held s0 s O b d F) {v : MV} (hp : Stable d F v) (hg : GoodV v) (hsq : v.seq < 18446744073709551616) (hl : v.files.length ≤ 60)
    (h : ∀ fv s', Keep s s' → FilesAt s' fv v.files → (∀ c, inBlk fv c → s.next ≤ c) → Q (.val (.tuple #[verV fv v, .int .i64 0]) s')) :
    Ev Tryz.prog Sm (.inv (.fn (.func 21) #[]) [.pointer (some ⟨b, 0, none⟩)] s) Q := by
  obtain ⟨I, hd, ho, hI⟩ := hh.at_
  obtain ⟨g, hc, hF⟩ := hp.cur
  have hle := encV_le hg hsq
  exact load1_ev n.load n.decode n.encode n.bin n.file n.frame n.crc hd hh.keep.wf (fun f hf => Nat.le_trans (hI f hf).2 (by decide)) hc hF hg hsq (by omega) h
theorem hstat_ev (n : NoMan Sm) {s0 s : St} {O : Nat → Prop} {b : Nat} {d : DD} {F : Fs} (hh : Held s0 s O b d F) {q : Int} {v : MV} (hp : Calm q d F (some v)) (hv : (encV v).length ≤ 65536)
    (h : ∀ s' x y z, Keep s s' → Held s0 s' O b d F → Q (.val (.agg #[x, .int .i64 ((8 + (encV v).length : Nat) : Int), y, z]) s')) :
    Ev Tryz.prog Sm (.inv (.fn (.func 30) #[]) [.pointer (some ⟨b, 0, none⟩)] s) Q := by
  obtain ⟨I, hd, ho, hI⟩ := hh.at_
  obtain ⟨g, e1, _⟩ := hp.names
  have e := hp.safe.trans e1
  refine dstat_ev n.file n.stat n.total hd hh.keep.wf (by rw [e]; simp [akeys]) (by rw [hp.total]; omega) (by rw [e]; exact (by decide : (1 : Nat) ≤ 1073741824)) fun s' k => ?_
  rw [hp.total]
  exact h s' _ _ _ k (hh.old k)
theorem hquota_ev (n : NoMan Sm) {s0 s : St} (h0 : s0.wf) {O : Nat → Prop} {b : Nat} {d : DD} {F : Fs} (hh : Held s0 s O b d F) {q : Int} {u : Option MV} (hp : Calm q d F u) (m : Int)
    (h : ∀ s' d', Mv O O s s' → Held s0 s' O b d' F → Calm (max m 0) d' F u → Q (.val (.tuple #[]) s')) :
    Ev Tryz.prog Sm (.inv (.fn (.func 29) #[]) [.pointer (some ⟨b, 0, none⟩), .int .i64 m] s) Q := by
  obtain ⟨I, hd, ho, hI⟩ := hh.at_
  refine quota_ev n.file hd hh.keep.wf m fun s' mv hd' => ?_
  exact h s' _ mv ⟨⟨I, hd', ho, hI⟩, mv.keep hh.keep ho h0⟩ ⟨rfl, hp.chgs, hp.safe, hp.names⟩
end
end Go.Proofs.YtbakhdgiimjnkaaGreatDoor

