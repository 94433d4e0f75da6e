/-
  simnet at the evaluator: doubled packets, the clock, the numbers, what waits. No law in sight.
-/
import Derived.Test.YtpbadpkleiogoaaSNetEv2
import Derived.Test.YtpbadpkleiogoaaEvSet
set_option linter.unusedVariables false
set_option linter.unusedSimpArgs false
namespace Go.Proofs.Ytpbadpkleiogoaa
open Abs
set_option maxHeartbeats 16000000
set_option maxRecDepth 20000
set_option linter.unusedSimpArgs false
attribute [local irreducible] Abs.Ev Abs.EvF Abs.EvO Abs.EvA Abs.Seq Abs.Blk Abs.Body Abs.Scp Abs.EvG Abs.EvAg Abs.Nx
attribute [local go_sem] Try.underlying2 Ty.sz2 Ty.by2 Ty.ag2 Ty.ze2 Try.underlying3 Ty.sz3 Ty.by3 Ty.ag3 Ty.ze3 Try.underlying4 Ty.sz4 Ty.by4 Ty.ag4 Ty.ze4 Try.underlying5 Ty.sz5 Ty.by5 Ty.ag5 Ty.ze5 Try.underlying29 Ty.sz29 Ty.by29 Ty.ag29 Ty.ze29 Try.underlying45 Ty.sz45 Ty.by45 Ty.ag45 Ty.ze45 Try.underlying53 Ty.sz53 Ty.by53 Ty.ag53 Ty.ze53 Try.underlying58 Ty.sz58 Ty.by58 Ty.ag58 Ty.ze58 Try.underlying84 Ty.sz84 Ty.by84 Ty.ag84 Ty.ze84 Try.underlying85 Ty.sz85 Ty.by85 Ty.ag85 Ty.ze85 Try.underlying87 Ty.sz87 Ty.by87 Ty.ag87 Ty.ze87 Try.underlying90 Ty.sz90 Ty.by90 Ty.ag90 Ty.ze90
section
variable {Sm : Summ} {Q : Ans → Prop}
theorem ndouble_ev (n : NoNet Sm) {s : St} (hwf : s.wf) {O : Nat → Prop} {b : Nat} {L : Pks} {sent : Nat} {now : Int} {fed : List Nat} {z : Nat} (hd : SN s O b L sent now fed z) (id : Int) (hL : L.length ≤ 1000) (hs : sent ≤ 1000) (hlen : ∀ e ∈ L, e.2.b.length ≤ 140737488351232)
    (h1 : posP (L.map (·.2)) id 0 < 0 → ∀ s', Keep s s' → Q (.val (.tuple #[.int .i64 0, .int .i64 4]) s'))
    (h2 : ∀ (i : Nat) (hi : i < L.length), posP (L.map (·.2)) id 0 = (i : Int) → ∀ s' O' v', Mv O O' s s' → SN s' O' b (L ++ [(v', ⟨((sent + 1 : Nat) : Int), L[i].2.from_, L[i].2.to, L[i].2.b⟩)]) (sent + 1) now fed z → Q (.val (.tuple #[.int .i64 ((sent + 1 : Nat) : Int), .int .i64 0]) s')) :
    Ev Try.prog Sm (.inv (.fn (.func 25) #[]) [.pointer (some ⟨b, 0, none⟩), .int .i64 id] s) Q := by
  refine Ev.func n.double Try.func25 rfl (m := 28) rfl ?_
  simp only [Array.toList_empty, List.append_nil, ofList_cons, ofList_nil]
  (try first | refine EvO.nx ?_ | refine EvA.nx ?_); repeat' (first | refine Abs.go ?_ | with_reducible refine Abs.fork (fun hb => ?_) (fun hb => ?_))
  refine find_ev n hwf hd id hL fun s1 k1 => ⟨_, _, rfl, ?_⟩
  have hd1 := hd.old k1
  by_cases hp : posP (L.map (·.2)) id 0 < 0
  · (try first | refine EvO.nx ?_ | refine EvA.nx ?_); repeat' (first | refine Abs.go ?_ | with_reducible refine Abs.fork (fun hb => ?_) (fun hb => ?_))
    exact h1 hp s1 k1
  · obtain ⟨i, hi, hil⟩ := pos_nat hp
    have h2 := h2 i hil hi
    rw [hi] at hp ⊢
    obtain ⟨pv, fv, g1, g2, g3, g4, g5, g6⟩ := hd1.ex
    obtain ⟨_, pa, pc, rfl⟩ := g2.src
    obtain ⟨xb, xo, xc, w, e, hw, hcut⟩ := pks_at g2.src.1 rfl ⟨_, _, rfl⟩ hil
    cases e
    have hci := hcut i hil
    have hmem := hd1.bytes L[i] (List.getElem_mem hil)
    have hlen := hlen L[i] (List.getElem_mem hil)
    generalize L[i] = e at *
    obtain ⟨bv, q⟩ := e
    unfold pkC at hci
    simp only at hci hmem hlen h2
    obtain ⟨⟨va, vc, rfl⟩, _⟩ := hmem.1.bytes
    have kb := (Keep.refl k1.wf).new2 k1.wf (.cells [.int .i64 0, .int .i64 0, .int .i64 0, .slice none 0 0] 90 0 false (0, 0)) (.cells [.int .i64 q.id, .int .i64 q.from_, .int .i64 q.to, .slice va q.b.length vc] 90 0 false (0, 0))
    (try first | refine EvO.nx ?_ | refine EvA.nx ?_); repeat' (first | refine Abs.goH (Abs.cc g1 (Abs.cc hw (hci))) ?_ | with_reducible refine Abs.fork (fun hb => ?_) (fun hb => ?_))
    have hd4 := hd1.old kb
    have hm4 := hmem.1.keep fun c x _ hx => kb.old c x hx
    refine nsend_ev n kb.wf hd4 hm4.bytes (fun c hc e => ?_) (by omega) q.from_ q.to hL hs fun s5 O5 v5 mv5 hd5 => ⟨_, _, rfl, ?_⟩
    · obtain ⟨_, w', sz, op, q2⟩ := hmem.2 c hc
      rw [e, g1] at q2
      cases q2
    · (try first | refine EvO.nx ?_ | refine EvA.nx ?_); repeat' (first | refine Abs.go ?_ | with_reducible refine Abs.fork (fun hb => ?_) (fun hb => ?_))
      exact h2 _ _ _ ((Mv.ofKeep (k1.trans kb)).trans hwf mv5) hd5
attribute [local go_sem] List.set_cons_zero List.set_cons_succ
theorem ntick_ev (n : NoNet Sm) {s : St} (hwf : s.wf) {O : Nat → Prop} {b : Nat} {L : Pks} {sent : Nat} {now : Int} {fed : List Nat} {z : Nat} (hd : SN s O b L sent now fed z) (d : Int) (hn : 0 ≤ now ∧ now ≤ 1152921504606846976)
    (h1 : d < 0 ∨ 1152921504606846976 - now < d → Q (.val (.int .i64 1) s))
    (h2 : 0 ≤ d → d ≤ 1152921504606846976 - now → ∀ s', Mv O O s s' → SN s' O b L sent (now + d) fed z → Q (.val (.int .i64 0) s')) :
    Ev Try.prog Sm (.inv (.fn (.func 27) #[]) [.pointer (some ⟨b, 0, none⟩), .int .i64 d] s) Q := by
  refine Ev.func n.tick Try.func27 rfl (m := 24) rfl ?_
  simp only [Array.toList_empty, List.append_nil, ofList_cons, ofList_nil]
  obtain ⟨pv, fv, g1, g2, g3, g4, g5, g6⟩ := hd.ex
  by_cases hd0 : d < 0
  · (try first | refine EvO.nx ?_ | refine EvA.nx ?_); repeat' (first | refine Abs.goH g1 ?_ | with_reducible refine Abs.fork (fun hb => ?_) (fun hb => ?_))
    exact h1 (.inl hd0)
  · by_cases hd1 : 1152921504606846976 - now < d
    · (try first | refine EvO.nx ?_ | refine EvA.nx ?_); repeat' (first | refine Abs.goH g1 ?_ | with_reducible refine Abs.fork (fun hb => ?_) (fun hb => ?_))
      exact h1 (.inr hd1)
    · (try first | refine EvO.nx ?_ | refine EvA.nx ?_); repeat' (first | refine Abs.goH g1 ?_ | with_reducible refine Abs.fork (fun hb => ?_) (fun hb => ?_))
      exact h2 (by omega) (by omega) _ (Mv.set hwf g1 hd.own) (NetAt.put kdN ⟨_, g1⟩ g2 g3 g4 g5 g6 hd.bytes hd.own hd.lt)
theorem nsent_ev (n : NoNet Sm) {s : St} {O : Nat → Prop} {b : Nat} {L : Pks} {sent : Nat} {now : Int} {fed : List Nat} {z : Nat} (hd : SN s O b L sent now fed z) (h : Q (.val (.int .i64 ((sent : Nat) : Int)) s)) :
    Ev Try.prog Sm (.inv (.fn (.func 39) #[]) [.pointer (some ⟨b, 0, none⟩)] s) Q := by
  refine Ev.func n.sent Try.func39 rfl (m := 7) rfl ?_
  simp only [Array.toList_empty, List.append_nil, ofList_cons, ofList_nil]
  obtain ⟨pv, fv, g1, _⟩ := hd.ex
  (try first | refine EvO.nx ?_ | refine EvA.nx ?_); repeat' (first | refine Abs.goH g1 ?_ | with_reducible refine Abs.fork (fun hb => ?_) (fun hb => ?_))
  exact h
theorem nnow_ev (n : NoNet Sm) {s : St} {O : Nat → Prop} {b : Nat} {L : Pks} {sent : Nat} {now : Int} {fed : List Nat} {z : Nat} (hd : SN s O b L sent now fed z) (h : Q (.val (.int .i64 now) s)) :
    Ev Try.prog Sm (.inv (.fn (.func 28) #[]) [.pointer (some ⟨b, 0, none⟩)] s) Q := by
  refine Ev.func n.now Try.func28 rfl (m := 7) rfl ?_
  simp only [Array.toList_empty, List.append_nil, ofList_cons, ofList_nil]
  obtain ⟨pv, fv, g1, _⟩ := hd.ex
  (try first | refine EvO.nx ?_ | refine EvA.nx ?_); repeat' (first | refine Abs.goH g1 ?_ | with_reducible refine Abs.fork (fun hb => ?_) (fun hb => ?_))
  exact h
def uAdd (z : Nat) : Nat := (z + 11400714819323198485) % 18446744073709551616
def uMulA (x : Nat) : Nat := (x * 13787848793156543929) % 18446744073709551616
def uMulB (x : Nat) : Nat := (x * 10723151780598845931) % 18446744073709551616
def uXs (k x : Nat) : Nat := x ^^^ (x >>> k)
def uMix (z : Nat) : Nat := uXs 31 (uMulB (uXs 27 (uMulA (uXs 30 z))))
theorem uAdd_lt (z : Nat) : uAdd z < 18446744073709551616 := Nat.mod_lt _ (by decide)
theorem uMulA_lt (z : Nat) : uMulA z < 18446744073709551616 := Nat.mod_lt _ (by decide)
theorem uMulB_lt (z : Nat) : uMulB z < 18446744073709551616 := Nat.mod_lt _ (by decide)
theorem wrap_add (z : Nat) : IntKind.u64.wrap (((z : Nat) : Int) + 11400714819323198485) = ((uAdd z : Nat) : Int) := by
  rw [show ((z : Nat) : Int) + 11400714819323198485 = ((z + 11400714819323198485 : Nat) : Int) from rfl, wrap_u64_nat]
  rfl
theorem wrap_mulA (z : Nat) : IntKind.u64.wrap (((z : Nat) : Int) * 13787848793156543929) = ((uMulA z : Nat) : Int) := by
  rw [show ((z : Nat) : Int) * 13787848793156543929 = ((z * 13787848793156543929 : Nat) : Int) from rfl, wrap_u64_nat]
  rfl
theorem wrap_mulB (z : Nat) : IntKind.u64.wrap (((z : Nat) : Int) * 10723151780598845931) = ((uMulB z : Nat) : Int) := by
  rw [show ((z : Nat) : Int) * 10723151780598845931 = ((z * 10723151780598845931 : Nat) : Int) from rfl, wrap_u64_nat]
  rfl
theorem do_add {P : Program} {h : Tr AObj} {t : TypeId} {c : Bool} (z : Nat) : aBin P h .add t c (.int .u64 ((z : Nat) : Int)) (.int .u64 11400714819323198485) = .ok (.int .u64 ((uAdd z : Nat) : Int)) := by rw [bin_add, wrap_add]
theorem do_mulA {P : Program} {h : Tr AObj} {t : TypeId} {c : Bool} (z : Nat) : aBin P h .mul t c (.int .u64 ((z : Nat) : Int)) (.int .u64 13787848793156543929) = .ok (.int .u64 ((uMulA z : Nat) : Int)) := by rw [bin_mul, wrap_mulA]
theorem do_mulB {P : Program} {h : Tr AObj} {t : TypeId} {c : Bool} (z : Nat) : aBin P h .mul t c (.int .u64 ((z : Nat) : Int)) (.int .u64 10723151780598845931) = .ok (.int .u64 ((uMulB z : Nat) : Int)) := by rw [bin_mul, wrap_mulB]
def uShr (k x : Nat) : Nat := x >>> k
theorem do_shr {P : Program} {h : Tr AObj} {t : TypeId} {c : Bool} {x : Nat} (hx : x < 18446744073709551616) (k : Nat) : aBin P h .shr t c (.int .u64 ((x : Nat) : Int)) (.int .u64 ((k : Nat) : Int)) = .ok (.int .u64 ((uShr k x : Nat) : Int)) := by
  rw [bin_shr_u64 _ _ _ (by omega) (by omega) (by omega)]
  rfl
theorem do_xs {P : Program} {h : Tr AObj} {t : TypeId} {c : Bool} {x : Nat} (hx : x < 18446744073709551616) (k : Nat) : aBin P h .xor t c (.int .u64 ((x : Nat) : Int)) (.int .u64 ((uShr k x : Nat) : Int)) = .ok (.int .u64 ((uXs k x : Nat) : Int)) := by
  have h2 : uShr k x < 18446744073709551616 := by
    unfold uShr
    rw [Nat.shiftRight_eq_div_pow]
    exact Nat.lt_of_le_of_lt (Nat.div_le_self _ _) hx
  rw [bin_xor_u64 _ _ (by omega) (by omega) (by omega) (by omega)]
  rfl
theorem Abs.Ev.kBin {P : Program} {fn : FuncId} {rd : Option Nat} {ops : Array Oper} {l : List Oper} {T : Tr Value} {n : Nat} {ds : List Deferred} {s : St} {t : Tmp} {op : BinOp} {bt : TypeId} {x y : Operand} {bp ty pos af} {a b v : Value} (hd : Nat.blt t n = true) (hx : Ac.ev ⟨T, n, ds⟩ x = .ok a) (hy : Ac.ev ⟨T, n, ds⟩ y = .ok b) (hr : aBin P s.heap op bt (isC x || isC y) a b = .ok v)
    (h : Ev P Sm (.run fn rd ops l ⟨T.set t v, n, ds⟩ s) Q) : Ev P Sm (.run fn rd ops (⟨some t, .binOp op bt x y bp, ty, pos, af, none⟩ :: l) ⟨T, n, ds⟩ s) Q := by
  refine Ev.kT hd (fun ih k => ?_) h
  rw [do_binOp, hx, bind_ok, hy, bind_ok, hr, sayV_ok, bind_ok]
/-- the operations behind a number, their results being unknown names -/
theorem rand_ops (z : Nat) : ∃ x1 x2 x3 y1 y2 v1 v2 v3 r : Nat,
    (∀ (P : Program) (h : Tr AObj) (t : TypeId) (c : Bool), aBin P h .add t c (.int .u64 ((z : Nat) : Int)) (.int .u64 11400714819323198485) = .ok (.int .u64 ((x1 : Nat) : Int))) ∧
    (∀ (P : Program) (h : Tr AObj) (t : TypeId) (c : Bool), aBin P h .shr t c (.int .u64 ((x1 : Nat) : Int)) (.int .u64 30) = .ok (.int .u64 ((v1 : Nat) : Int))) ∧
    (∀ (P : Program) (h : Tr AObj) (t : TypeId) (c : Bool), aBin P h .xor t c (.int .u64 ((x1 : Nat) : Int)) (.int .u64 ((v1 : Nat) : Int)) = .ok (.int .u64 ((y1 : Nat) : Int))) ∧
    (∀ (P : Program) (h : Tr AObj) (t : TypeId) (c : Bool), aBin P h .mul t c (.int .u64 ((y1 : Nat) : Int)) (.int .u64 13787848793156543929) = .ok (.int .u64 ((x2 : Nat) : Int))) ∧
    (∀ (P : Program) (h : Tr AObj) (t : TypeId) (c : Bool), aBin P h .shr t c (.int .u64 ((x2 : Nat) : Int)) (.int .u64 27) = .ok (.int .u64 ((v2 : Nat) : Int))) ∧
    (∀ (P : Program) (h : Tr AObj) (t : TypeId) (c : Bool), aBin P h .xor t c (.int .u64 ((x2 : Nat) : Int)) (.int .u64 ((v2 : Nat) : Int)) = .ok (.int .u64 ((y2 : Nat) : Int))) ∧
    (∀ (P : Program) (h : Tr AObj) (t : TypeId) (c : Bool), aBin P h .mul t c (.int .u64 ((y2 : Nat) : Int)) (.int .u64 10723151780598845931) = .ok (.int .u64 ((x3 : Nat) : Int))) ∧
    (∀ (P : Program) (h : Tr AObj) (t : TypeId) (c : Bool), aBin P h .shr t c (.int .u64 ((x3 : Nat) : Int)) (.int .u64 31) = .ok (.int .u64 ((v3 : Nat) : Int))) ∧
    (∀ (P : Program) (h : Tr AObj) (t : TypeId) (c : Bool), aBin P h .xor t c (.int .u64 ((x3 : Nat) : Int)) (.int .u64 ((v3 : Nat) : Int)) = .ok (.int .u64 ((r : Nat) : Int))) ∧
    x1 = uAdd z ∧ r = uMix (uAdd z) :=
  ⟨uAdd z, uMulA (uXs 30 (uAdd z)), uMulB (uXs 27 (uMulA (uXs 30 (uAdd z)))), uXs 30 (uAdd z), uXs 27 (uMulA (uXs 30 (uAdd z))), uShr 30 (uAdd z), uShr 27 (uMulA (uXs 30 (uAdd z))), uShr 31 (uMulB (uXs 27 (uMulA (uXs 30 (uAdd z))))), uMix (uAdd z),
    fun _ _ _ _ => do_add z, fun _ _ _ _ => do_shr (uAdd_lt z) 30, fun _ _ _ _ => do_xs (uAdd_lt z) 30, fun _ _ _ _ => do_mulA _, fun _ _ _ _ => do_shr (uMulA_lt _) 27, fun _ _ _ _ => do_xs (uMulA_lt _) 27, fun _ _ _ _ => do_mulB _, fun _ _ _ _ => do_shr (uMulB_lt _) 31, fun _ _ _ _ => do_xs (uMulB_lt _) 31, rfl, rfl⟩
theorem nrand_ev (n : NoNet Sm) {s : St} (hwf : s.wf) {O : Nat → Prop} {b : Nat} {L : Pks} {sent : Nat} {now : Int} {fed : List Nat} {z : Nat} (hd : SN s O b L sent now fed z) (hf : fed.length ≤ 1000)
    (h1 : fed = [] → ∀ s', Mv O O s s' → SN s' O b L sent now [] (uAdd z) → Q (.val (.int .u64 ((uMix (uAdd z) : Nat) : Int)) s'))
    (h2 : ∀ x r, fed = x :: r → ∀ s', Mv O O s s' → SN s' O b L sent now r z → Q (.val (.int .u64 ((x : Nat) : Int)) s')) :
    Ev Try.prog Sm (.inv (.fn (.func 35) #[]) [.pointer (some ⟨b, 0, none⟩)] s) Q := by
  refine Ev.func n.rand Try.func35 rfl (m := 51) rfl ?_
  simp only [Array.toList_empty, List.append_nil, ofList_cons, ofList_nil]
  obtain ⟨pv, fv, g1, g2, g3, g4, g5, g6⟩ := hd.ex
  obtain ⟨fa, fc, rfl⟩ := g3.len
  cases fed with
  | cons x r =>
    cases g3 with
    | gone _ hl _ => cases hl
    | vec g3 hr =>
      obtain ⟨pb, o, l, e, hb, ho, hl, hc⟩ := room_of g3 (hr (by simp)) (by simp) (by unfold open_; simp only [List.length_cons] at hf ⊢; omega)
      cases e
      simp only [List.length_cons, Nat.mul_one] at hl hc hf g1
      have hx : l[o]? = some (.int .u64 ((x : Nat) : Int)) := by
        have := congrArg (fun l => l[0]?) hc
        simpa [u64C] using this
      have hc' : (l.drop (o + 1)).take r.length = u64C r := by
        have := congrArg (fun l => l.drop 1) hc
        rw [List.drop_take, List.drop_drop] at this
        simpa [u64C] using this
      have hop : r.length + 1 < open_ := by unfold open_; omega
      (try first | refine EvO.nx ?_ | refine EvA.nx ?_); repeat' (first | refine Abs.goH (Abs.cc g1 (Abs.cc hb (hx))) ?_ | with_reducible refine Abs.fork (fun hb => ?_) (fun hb => ?_))
      refine h2 x r rfl _ (Mv.set hwf g1 hd.own) (NetAt.put kdN ⟨_, g1⟩ g2 ?_ g4 (fun c hc => ?_) g6 hd.bytes hd.own hd.lt)
      · by_cases ho1 : o + 1 < l.length
        · refine .vec (.room hb (Nat.mod_one _) ⟨by omega, by omega⟩ (by rw [Nat.mul_one]; exact hc')) fun _ c hc => ?_
          obtain ⟨_, _, _, e⟩ := hc
          cases e
          exact ⟨_, _, rfl⟩
        · have e : o + 1 = l.length := by omega
          have e2 : r = [] := List.eq_nil_of_length_eq_zero (by omega)
          subst e2
          refine .gone (w := l) ?_ rfl hb
          rw [← e]
          rfl
      · obtain ⟨_, _, _, e⟩ := hc
        cases e
        exact g5 pb ⟨_, _, _, rfl⟩
  | nil =>
    obtain ⟨x1, x2, x3, y1, y2, v1, v2, v3, r, a1, a2, a3, a4, a5, a6, a7, a8, a9, e1, e2⟩ := rand_ops z
    simp only [List.length_nil] at g1
    iterate 25 (first | refine Abs.Ev.seq ?_ | refine Abs.Ev.region ?_ | refine Abs.Ev.skip ?_ | refine Abs.Seq.go ?_ | refine Ev.runNil ?_ | ((apply Abs.Ev.kcond2); (· (intros; simp (disch := first | omega | assumption) only [go_sem, g1]; exact rfl)); refine Abs.goR ?_ ?_; (· intro hb; simp at hb)) | (apply Abs.Ev.kT rfl; (· (intros; simp (disch := first | omega | assumption) only [go_sem, g1]; exact rfl))))
    refine Abs.Ev.kBin (a := .int .u64 ((z : Nat) : Int)) (b := .int .u64 11400714819323198485) ?_ ?_ ?_ (a1 _ _ _ _) ?_
    · rfl
    · simp only [go_sem]
    · rfl
    repeat (first | refine Abs.Ev.seq ?_ | refine Abs.Ev.region ?_ | refine Abs.Ev.skip ?_ | refine Abs.Seq.go ?_ | refine Ev.runNil ?_ | (refine Abs.Ev.kBin (a := .int .u64 ((x1 : Nat) : Int)) (b := .int .u64 30) ?_ ?_ ?_ (a2 _ _ _ _) ?_; (· rfl); (· simp (disch := omega) only [go_sem]; done); (· first | rfl | (simp (disch := omega) only [go_sem]; done))) | (refine Abs.Ev.kBin (a := .int .u64 ((x1 : Nat) : Int)) (b := .int .u64 ((v1 : Nat) : Int)) ?_ ?_ ?_ (a3 _ _ _ _) ?_; (· rfl); (· simp (disch := omega) only [go_sem]; done); (· first | rfl | (simp (disch := omega) only [go_sem]; done))) | (refine Abs.Ev.kBin (a := .int .u64 ((y1 : Nat) : Int)) (b := .int .u64 13787848793156543929) ?_ ?_ ?_ (a4 _ _ _ _) ?_; (· rfl); (· simp (disch := omega) only [go_sem]; done); (· first | rfl | (simp (disch := omega) only [go_sem]; done))) | (refine Abs.Ev.kBin (a := .int .u64 ((x2 : Nat) : Int)) (b := .int .u64 27) ?_ ?_ ?_ (a5 _ _ _ _) ?_; (· rfl); (· simp (disch := omega) only [go_sem]; done); (· first | rfl | (simp (disch := omega) only [go_sem]; done))) | (refine Abs.Ev.kBin (a := .int .u64 ((x2 : Nat) : Int)) (b := .int .u64 ((v2 : Nat) : Int)) ?_ ?_ ?_ (a6 _ _ _ _) ?_; (· rfl); (· simp (disch := omega) only [go_sem]; done); (· first | rfl | (simp (disch := omega) only [go_sem]; done))) | (refine Abs.Ev.kBin (a := .int .u64 ((y2 : Nat) : Int)) (b := .int .u64 10723151780598845931) ?_ ?_ ?_ (a7 _ _ _ _) ?_; (· rfl); (· simp (disch := omega) only [go_sem]; done); (· first | rfl | (simp (disch := omega) only [go_sem]; done))) | (refine Abs.Ev.kBin (a := .int .u64 ((x3 : Nat) : Int)) (b := .int .u64 31) ?_ ?_ ?_ (a8 _ _ _ _) ?_; (· rfl); (· simp (disch := omega) only [go_sem]; done); (· first | rfl | (simp (disch := omega) only [go_sem]; done))) | (refine Abs.Ev.kBin (a := .int .u64 ((x3 : Nat) : Int)) (b := .int .u64 ((v3 : Nat) : Int)) ?_ ?_ ?_ (a9 _ _ _ _) ?_; (· rfl); (· simp (disch := omega) only [go_sem]; done); (· first | rfl | (simp (disch := omega) only [go_sem]; done))) | ((first | apply Abs.Ev.kT rfl | apply Abs.Ev.kN); (· (intros; simp (disch := first | omega | assumption) only [go_sem, g1, List.set_cons_zero, List.set_cons_succ]; exact rfl))))
    (try first | refine EvO.nx ?_ | refine EvA.nx ?_); repeat' (first | refine Abs.go ?_ | with_reducible refine Abs.fork (fun hb => ?_) (fun hb => ?_))
    have h1 := h1 rfl
    rw [← e2, ← e1] at h1
    exact h1 _ (Mv.set hwf g1 hd.own) (NetAt.put kdN ⟨_, g1⟩ g2 g3 g4 g5 g6 hd.bytes hd.own hd.lt)
end
end Go.Proofs.Ytpbadpkleiogoaa
