/-
  The evaluator and what is proved of it (several texts in one).
-/
import Derived.Test.YtbakhdgiimjnkaaGreatDoorPlA
import Derived.Test.YtbakhdgiimjnkaaGreatDoorBnA
import Derived.Test.YtbakhdgiimjnkaaGreatDoorEvCut
import Derived.Test.YtbakhdgiimjnkaaGreatDoorCtA
import Derived.Test.YtbakhdgiimjnkaaGreatDoorManEnc
import Derived.Test.YtbakhdgiimjnkaaGreatDoorEvSet
set_option linter.unusedVariables false
set_option linter.unusedSimpArgs false
/-
  frame: what number, read, sum, Append do, at the evaluator.
-/
namespace Go.Proofs.YtbakhdgiimjnkaaGreatDoor
open Abs
set_option maxHeartbeats 16000000
set_option maxRecDepth 20000
set_option linter.unusedSimpArgs false
attribute [local irreducible] Abs.Ev Abs.EvF Abs.EvO Abs.EvA Abs.Seq Abs.Blk Abs.Body Abs.Scp Abs.EvG Abs.EvAg Abs.Nx
attribute [local go_sem] Tryz.underlying3 Ty.sz3 Ty.by3 Ty.ag3 Ty.ze3 Tryz.underlying4 Ty.sz4 Ty.by4 Ty.ag4 Ty.ze4 Tryz.underlying5 Ty.sz5 Ty.by5 Ty.ag5 Ty.ze5 Tryz.underlying9 Ty.sz9 Ty.by9 Ty.ag9 Ty.ze9 Tryz.underlying28 Ty.sz28 Ty.by28 Ty.ag28 Ty.ze28 Tryz.underlying29 Ty.sz29 Ty.by29 Ty.ag29 Ty.ze29 Tryz.underlying59 Ty.sz59 Ty.by59 Ty.ag59 Ty.ze59 Tryz.underlying121 Ty.sz121 Ty.by121 Ty.ag121 Ty.ze121
section
variable {Sm : Summ} {Q : Ans → Prop}
structure NoFrame (Sm : Summ) : Prop where
  number : Sm 99 = none
  read : Sm 85 = none
  sum : Sm 86 = none
  append : Sm 68 = none
  scan : Sm 57 = none
  csum : Sm 113 = none
  concat : Sm 100 = none
  grow : Sm 124 = none
  clone : Sm 80 = none
theorem sumN_lt (a b : List UInt8) : sumN a b < 4294967296 := by
  have hb : ∀ c b, c < 4294967296 → crcByte c b < 4294967296 ∨ 256 ≤ b := fun c b h => by
    by_cases hb : 256 ≤ b
    · exact .inr hb
    · exact .inl (crcBits_lt (Nat.xor_lt_two_pow (n := 32) h (by omega)) 8)
  exact moreN_lt (moreN_lt (by decide) a hb) b hb
theorem moreN_lt' {c : Nat} (hc : c < 4294967296) (l : List UInt8) : moreN c l < 4294967296 := moreN_lt hc l fun c b h => by
    by_cases hb : 256 ≤ b
    · exact .inr hb
    · exact .inl (crcBits_lt (Nat.xor_lt_two_pow (n := 32) h (by omega)) 8)
theorem moreN_nil {c : Nat} (hc : c < 4294967296) : moreN c [] = c := by
  show 4294967295 ^^^ (4294967295 ^^^ c) = c
  rw [← Nat.xor_assoc, Nat.xor_self, Nat.zero_xor]
theorem more_ev (hm : Sm 112 = none) {s : St} {v : Value} {l : List UInt8} (hv : BytesB s v l) (hl : l.length ≤ 1073741824) {c : Nat} (hc : c < 4294967296) (h : Q (.val (.int .u32 ((moreN c l : Nat) : Int)) s)) :
    Ev Tryz.prog Sm (.inv (.fn (.func 112) #[]) [.int .u32 (c : Int), v] s) Q := by
  obtain ⟨⟨a, k, rfl⟩, hs⟩ := hv
  cases a with
  | some a =>
    refine (crc_ev hm (v := .int .u32 ((moreN c l : Nat) : Int)) (s1 := s) ?_).mono fun r e => e ▸ h
    show ifb (Nat.blt c 4294967296) (ifb (Nat.ble l.length 1073741824) (sumCrc2 s.heap s (.slice (some a) l.length k) c) (.no 141 "")) (.no 141 "") = _
    rw [show Nat.blt c 4294967296 = true by simpa using hc, show Nat.ble l.length 1073741824 = true by simpa using hl]
    show (srcCells s.heap 1 (.slice (some a) l.length k)).bind _ = _
    rw [hs]
    show (Rs.of 140 (crcGo (byteCells l) (4294967295 ^^^ c))).bind _ = _
    rw [crcGo_bytes]
    rfl
  | none =>
    have e : (0, ([] : List Value)) = (l.length, byteCells l) := Rs.ok.inj hs
    have e1 : l = [] := List.eq_nil_of_length_eq_zero (congrArg Prod.fst e).symm
    subst e1
    rw [moreN_nil hc] at h
    have hx : 4294967295 ^^^ (4294967295 ^^^ c) = c := by rw [← Nat.xor_assoc, Nat.xor_self, Nat.zero_xor]
    have hx2 := xor32 hc
    refine Ev.func hm Tryz.func112 rfl (m := 35) rfl ?_
    simp only [Array.toList_empty, List.append_nil, ofList_cons, ofList_nil]
    (try first | refine EvO.nx ?_ | refine EvA.nx ?_); repeat' (first | refine Abs.go ?_ | with_reducible refine Abs.fork (fun hb => ?_) (fun hb => ?_))
    refine Ev.loop (fun k a s' => s' = s ∧ ∃ T, a = ⟨T, 35, []⟩ ∧ T.get 5 = some (.int .u32 ((4294967295 ^^^ c : Nat) : Int)) ∧ T.get 12 = some (.int .i64 0) ∧ T.get 13 = some (.int .i64 0) ∧ k = 0) (k := 0)
      ⟨rfl, _, rfl, ?g5, ?g12, ?g13, rfl⟩ ?_
    case g5 => simp (disch := first | omega | assumption) only [go_sem, ]
    case g12 => simp (disch := first | omega | assumption) only [go_sem, ]; try rfl
    case g13 => simp (disch := first | omega | assumption) only [go_sem, ]; try rfl
    rintro m a s' ⟨rfl, T, rfl, h5, h12, h13, rfl⟩
    (try first | refine EvO.nx ?_ | refine EvA.nx ?_); repeat' (first | refine Abs.goH (Abs.cc h5 (Abs.cc h12 (Abs.cc h13 (hx)))) ?_ | with_reducible refine Abs.fork (fun hb => ?_) (fun hb => ?_))
    all_goals exact h
theorem fnumber_ev (hn : NoFrame Sm) {s : St} (hwf : s.wf) {n : Nat} (h0 : n < 4294967296) (h : ∀ b s', Keep s s' → s.next ≤ b → s'.heap.get b = some (.cells (byteCells (le32 n)) 5 0 false (0, 0)) → Q (.val (.slice (some ⟨b, 0, none⟩) 4 4) s')) :
    Ev Tryz.prog Sm (.inv (.fn (.func 99) #[]) [.int .u32 (n : Int)] s) Q := by
  refine Ev.func hn.number Tryz.func99 rfl (m := 15) rfl ?_
  simp only [Array.toList_empty, List.append_nil, ofList_cons, ofList_nil]
  (try first | refine EvO.nx ?_ | refine EvA.nx ?_); repeat' (first | refine Abs.go ?_ | with_reducible refine Abs.fork (fun hb => ?_) (fun hb => ?_))
  refine h s.next _ ((Keep.refl hwf).new _) (Nat.le_refl _) ?_
  show (s.heap.set _ _).get _ = _
  rw [get_same, byteCells_eq]
  unfold le32
  have e1 : n >>> 8 = n / 256 := Nat.shiftRight_eq_div_pow n 8
  have e2 : n >>> 16 = n / 65536 := Nat.shiftRight_eq_div_pow n 16
  have e3 : n >>> 24 = n / 16777216 := Nat.shiftRight_eq_div_pow n 24
  have e4 : n / 16777216 % 256 = n / 16777216 := Nat.mod_eq_of_lt (by omega)
  simp only [wrap_u8_nat, e1, e2, e3, List.map_cons, List.map_nil, UInt8.toNat_ofNat', Int.ofNat_eq_natCast, Nat.reducePow, Nat.mod_mod, e4]
  rfl
theorem or4 {a b c d : Nat} (ha : a < 256) (hb : b < 256) (hc : c < 256) (hd : d < 256) : a ||| b <<< 8 % 4294967296 ||| c <<< 16 % 4294967296 ||| d <<< 24 % 4294967296 = a + b * 256 + c * 65536 + d * 16777216 := by
  have e1 : b <<< 8 = b * 256 := Nat.shiftLeft_eq b 8
  have e2 : c <<< 16 = c * 65536 := Nat.shiftLeft_eq c 16
  have e3 : d <<< 24 = d * 16777216 := Nat.shiftLeft_eq d 24
  have h1 := Nat.shiftLeft_add_eq_or_of_lt (b := a) (i := 8) (by omega) b
  have h2 := Nat.shiftLeft_add_eq_or_of_lt (b := a + b * 256) (i := 16) (by omega) c
  have h3 := Nat.shiftLeft_add_eq_or_of_lt (b := a + b * 256 + c * 65536) (i := 24) (by omega) d
  rw [Nat.mod_eq_of_lt (by omega), Nat.mod_eq_of_lt (by omega), Nat.mod_eq_of_lt (by omega), Nat.or_comm a, ← h1, e1, Nat.add_comm, Nat.or_comm (a + b * 256), ← h2, e2, Nat.add_comm, Nat.or_comm (a + b * 256 + c * 65536), ← h3, e3, Nat.add_comm]
theorem fread_ev (hn : NoFrame Sm) {s : St} {b o n k : Nat} {w : List Value} {e : TypeId} {sz : Nat} {opn : Bool} {fz : Nat × Nat} {l : List UInt8} (hb : s.heap.get b = some (.cells w e sz opn fz)) (hl : n = l.length) (h4 : 4 ≤ n) (hc : cutN w o n = some (byteCells l)) (h : Q (.val (.int .u32 ((rd32 l : Nat) : Int)) s)) :
    Ev Tryz.prog Sm (.inv (.fn (.func 85) #[]) [.slice (some ⟨b, o, none⟩) n k] s) Q := by
  refine Ev.func hn.read Tryz.func85 rfl (m := 25) rfl ?_
  simp only [Array.toList_empty, List.append_nil, ofList_cons, ofList_nil]
  obtain ⟨h1, h2⟩ := cutN_some hc
  have hget : ∀ i, i < n → w[o + i]? = (byteCells l)[i]? := by
    intro i hi
    rw [h2, List.getElem?_take_of_lt hi, List.getElem?_drop]
  match l, hl with
  | [], hl => simp at hl; omega
  | [_], hl => simp at hl; omega
  | [_, _], hl => simp at hl; omega
  | [_, _, _], hl => simp at hl; omega
  | x0 :: x1 :: x2 :: x3 :: r, hl =>
    have g0 : w[o]? = some (.int .u8 (x0.toNat : Int)) := hget 0 (by omega)
    have g1 : w[o + 1]? = some (.int .u8 (x1.toNat : Int)) := hget 1 (by omega)
    have g2 : w[o + 2]? = some (.int .u8 (x2.toNat : Int)) := hget 2 (by omega)
    have g3 : w[o + 3]? = some (.int .u8 (x3.toNat : Int)) := hget 3 (by omega)
    have l0 := x0.toNat_lt
    have l1 := x1.toNat_lt
    have l2 := x2.toNat_lt
    have l3 := x3.toNat_lt
    have ho := or4 l0 l1 l2 l3
    change Q (.val (.int .u32 ((x0.toNat + x1.toNat * 256 + x2.toNat * 65536 + x3.toNat * 16777216 : Nat) : Int)) s) at h
    rw [← ho] at h
    have b1 : (((x0.toNat ||| x1.toNat <<< 8 % 4294967296 : Nat) : Int)) < 4294967296 := Int.ofNat_lt.2 (Nat.or_lt_two_pow (n := 32) (by omega) (Nat.mod_lt _ (by decide)))
    have b2 : (((x0.toNat ||| x1.toNat <<< 8 % 4294967296 ||| x2.toNat <<< 16 % 4294967296 : Nat) : Int)) < 4294967296 := Int.ofNat_lt.2 (Nat.or_lt_two_pow (n := 32) (Nat.or_lt_two_pow (n := 32) (by omega) (Nat.mod_lt _ (by decide))) (Nat.mod_lt _ (by decide)))
    clear hget hc h2 ho hl
    (try first | refine EvO.nx ?_ | refine EvA.nx ?_); repeat' (first | refine Abs.go ?_ | with_reducible refine Abs.fork (fun hb => ?_) (fun hb => ?_))
    refine Abs.Ev.regionD (n := 0) (l := [.go 0, .go 1, .go 2, .go 3, .go 4, .go 5, .go 6, .go 7, .go 8, .go 9, .go 10, .go 11, .go 12, .go 13, .go 14, .go 15, .go 16, .go 17, .go 18, .go 19, .go 20, .go 21, .go 22]) (by kernel_rfl) ?_
    (try first | refine EvO.nx ?_ | refine EvA.nx ?_); repeat' (first | refine Abs.goH (Abs.cc hb (Abs.cc g0 (Abs.cc g1 (Abs.cc g2 (g3))))) ?_ | with_reducible refine Abs.fork (fun hb => ?_) (fun hb => ?_))
    exact h
theorem csum_ev (hn : NoFrame Sm) (hm : Sm 112 = none) {s : St} {u : Value} {a : List UInt8} (hu : BytesB s u a) (ha : a.length ≤ 1073741824) (h : Q (.val (.int .u32 ((moreN 0 a : Nat) : Int)) s)) :
    Ev Tryz.prog Sm (.inv (.fn (.func 113) #[]) [u] s) Q := by
  refine Ev.func hn.csum Tryz.func113 rfl (m := 5) rfl ?_
  simp only [Array.toList_empty, List.append_nil, ofList_cons, ofList_nil]
  (try first | refine EvO.nx ?_ | refine EvA.nx ?_); repeat' (first | refine Abs.go ?_ | with_reducible refine Abs.fork (fun hb => ?_) (fun hb => ?_))
  refine more_ev (c := 0) hm hu ha (by decide) ?_
  refine ⟨_, _, rfl, ?_⟩
  (try first | refine EvO.nx ?_ | refine EvA.nx ?_); repeat' (first | refine Abs.go ?_ | with_reducible refine Abs.fork (fun hb => ?_) (fun hb => ?_))
  exact h
theorem fsum_ev (hn : NoFrame Sm) (hm : Sm 112 = none) {s : St} {u v : Value} {a p : List UInt8} (hu : BytesB s u a) (hv : BytesB s v p) (ha : a.length ≤ 1073741824) (hp : p.length ≤ 1073741824) (h : Q (.val (.int .u32 ((sumN a p : Nat) : Int)) s)) :
    Ev Tryz.prog Sm (.inv (.fn (.func 86) #[]) [u, v] s) Q := by
  refine Ev.func hn.sum Tryz.func86 rfl (m := 9) rfl ?_
  simp only [Array.toList_empty, List.append_nil, ofList_cons, ofList_nil]
  (try first | refine EvO.nx ?_ | refine EvA.nx ?_); repeat' (first | refine Abs.go ?_ | with_reducible refine Abs.fork (fun hb => ?_) (fun hb => ?_))
  refine csum_ev hn hm hu ha ?_
  refine ⟨_, _, rfl, ?_⟩
  (try first | refine EvO.nx ?_ | refine EvA.nx ?_); repeat' (first | refine Abs.go ?_ | with_reducible refine Abs.fork (fun hb => ?_) (fun hb => ?_))
  have h0 := moreN_lt' (c := 0) (by decide) a
  refine more_ev hm hv hp h0 ⟨_, _, rfl, ?_⟩
  (try first | refine EvO.nx ?_ | refine EvA.nx ?_); repeat' (first | refine Abs.go ?_ | with_reducible refine Abs.fork (fun hb => ?_) (fun hb => ?_))
  exact h
theorem reps_u8 : ∀ n : Nat, reps (cellsOf (.int .u8 0)) n = byteCells (List.replicate n 0)
  | 0 => rfl
  | n + 1 => by
    rw [List.replicate_succ]
    show _ = Value.int .u8 (Int.ofNat (0 : UInt8).toNat) :: byteCells (List.replicate n 0)
    rw [← reps_u8 n]
    rfl
theorem appSrc_int {h : Tr AObj} {n : Nat} (h0 : n ≤ 1073741824) : appSrc Tryz.prog h 1 (cellsOf (.int .u8 0)) [3] (.int .i64 (n : Int)) = .ok (n, byteCells (List.replicate n 0)) := by
  have hu : undT Tryz.prog 3 = .ok (.int .i64) := by rw [undT_eq, Tryz.underlying3]; rfl
  unfold appSrc
  simp only [hu]
  show ifb (Nat.ble n 1073741824) (natK n fun m => Rs.ok (m, reps (cellsOf (.int .u8 0)) m)) _ = _
  rw [show Nat.ble n 1073741824 = true by simpa using h0]
  rw [ifb_eq, if_pos rfl, natK_eq, reps_u8]
attribute [local go_sem] Nat.zero_mul Nat.sub_zero Nat.div_one
theorem grow_ev (hn : NoFrame Sm) {s : St} (hwf : s.wf) {n : Nat} (h0 : n ≤ 1073741824) (h : ∀ v s', Keep s s' → Own s' s.next 5 1 v 0 [] → Q (.val v s')) :
    Ev Tryz.prog Sm (.inv (.fn (.func 124) #[]) [.slice none 0 0, .int .i64 (n : Int)] s) Q := by
  refine Ev.func hn.grow Tryz.func124 rfl (m := 27) rfl ?_
  simp only [Array.toList_empty, List.append_nil, ofList_cons, ofList_nil]
  (try first | refine EvO.nx ?_ | refine EvA.nx ?_); repeat' (first | refine Abs.go ?_ | with_reducible refine Abs.fork (fun hb => ?_) (fun hb => ?_))
  · rw [show ((n : Int) - (((0 : Nat) : Int) - ((0 : Nat) : Int))) = (n : Int) by omega]
    have hx := appSrc_int (h := s.heap) h0
    rw [show n = (List.replicate n (0 : UInt8)).length by rw [List.length_replicate]] at hx
    conv at hx => lhs; rw [List.length_replicate]
    conv at hx => rhs; arg 1; arg 2; rw [List.length_replicate]
    refine EvO.appendO (l := []) (m := List.replicate n 0) hwf .nil hx (by intro e; have := congrArg List.length e; simp at this; omega) (by simp; omega) fun s1 k1 k2 k3 k4 => ?_
    rw [List.nil_append] at k1 ⊢
    have hbl := byteCells_len (List.replicate n 0)
    rw [List.length_replicate] at hbl ⊢
    (try first | refine EvO.nx ?_ | refine EvA.nx ?_); repeat' (first | refine Abs.goH (Abs.cc k1 (hbl)) ?_ | with_reducible refine Abs.fork (fun hb => ?_) (fun hb => ?_))
    refine h _ _ ((Keep.refl hwf).append k2 k3 k4 hwf (by rintro b ⟨n, e⟩; cases e)) ⟨.room k1 rfl (by rw [hbl]; omega) rfl, ?_, ?_, by decide⟩
    · rintro b ⟨o, m, c, e⟩
      cases e
      exact ⟨_, _, rfl⟩
    · rintro b ⟨o, m, e⟩
      cases e
      exact Nat.le_refl _
  · exact h _ _ (Keep.refl hwf) .nil
/-- an append to a slice of one's own, of nothing too -/
theorem Abs.EvO.appendOwnW {P : Program} {st : St} {lo : Nat} {t e : TypeId} {xt : List TypeId} {sz by_ : Nat} {z v x : Value} {n m : Nat} {cs nw : List Value} {K : Value → St → Prop} (hwf : st.wf) (hu : P.underlying t = some (.slice e)) (hsz : szT P e = .ok sz) (hby : bytesT P e = .ok by_) (hz : zeroT P e = .ok z) (hzl : (cellsOf z).length = sz) (h0 : 0 < sz)
    (hv : Own st lo e sz v n cs) (hlo : lo ≤ st.next) (hx : appSrc P st.heap sz (cellsOf z) xt x = .ok (m, nw)) (hnw : nw.length = m * sz) (hone : nw.all oneB = true) (h1 : n + m ≤ 140737488355328) (h2 : (2 * (n + m) + 192) * by_ ≤ 281474976710656)
    (h : ∀ v' st', Own st' lo e sz v' (n + m) (cs ++ nw) → st'.wf → st.next ≤ st'.next → SameBut e sz st st' → (∀ b y, b < lo → st.heap.get b = some y → st'.heap.get b = some y) → K v' st') :
    EvO (fun _ k => aAppend P st (t :: xt) v x fun v s => k v [] s) K := by
  by_cases hm : 0 < m
  · exact EvO.appendOwn hwf hu hsz hby hz hzl h0 hv hlo hx hnw hone hm h1 h2 h
  · obtain rfl : m = 0 := by omega
    obtain rfl : nw = [] := List.eq_nil_of_length_eq_zero (by omega)
    obtain ⟨_, a, c, rfl⟩ := hv.vec.src
    exact EvO.mk' (fun ih k => append_zero hu hsz hby hz hzl hx (by omega) (by simpa using h2) _) (h _ st (by rw [List.append_nil]; exact hv) hwf (Nat.le_refl _) (fun c y hc _ => hc) fun b y _ hy => hy)
/-- slices of bytes, as they lie -/
def AllB (s : St) (vs : List Value) (ls : List (List UInt8)) : Prop := vs.length = ls.length ∧ ∀ (i : Nat) (v : Value) (l : List UInt8), vs[i]? = some v → ls[i]? = some l → BytesB s v l
theorem concat_ev (hn : NoFrame Sm) {s : St} (hwf : s.wf) {b c : Nat} {vs : List Value} {ls : List (List UInt8)} {e : TypeId} {sz : Nat} {opn : Bool} {fz : Nat × Nat} (hbk : s.heap.get b = some (.cells vs e sz opn fz)) (hv : AllB s vs ls) (hl : ls.flatten.length ≤ 1073741824) (hvl : vs.length ≤ 1000000) (h : ∀ v s', Keep s s' → Own s' s.next 5 1 v ls.flatten.length (byteCells ls.flatten) → Q (.val v s')) :
    Ev Tryz.prog Sm (.inv (.fn (.func 100) #[]) [.slice (some ⟨b, 0, none⟩) vs.length c] s) Q := by
  refine Ev.func hn.concat Tryz.func100 rfl (m := 36) rfl ?_
  simp only [Array.toList_empty, List.append_nil, ofList_cons, ofList_nil]
  (try first | refine EvO.nx ?_ | refine EvA.nx ?_); repeat' (first | refine Abs.go ?_ | with_reducible refine Abs.fork (fun hb => ?_) (fun hb => ?_))
  refine Ev.loop (fun q a s' => s' = s ∧ ∃ T i, a = ⟨T, 36, []⟩ ∧ T.get 0 = some (.slice (some ⟨b, 0, none⟩) vs.length c) ∧ T.get 9 = some (.slice (some ⟨b, 0, none⟩) vs.length c) ∧ T.get 10 = some (.int .i64 (vs.length : Int)) ∧ T.get 3 = some (.int .i64 (((ls.take i).flatten.length : Nat) : Int)) ∧ T.get 11 = some (.int .i64 ((i : Nat) : Int)) ∧ i ≤ vs.length ∧ q = vs.length - i) (k := vs.length)
    ⟨rfl, _, 0, rfl, ?g0, ?g9, ?g10, ?g3, ?g11, Nat.zero_le _, rfl⟩ ?_
  case g0 => simp (disch := first | omega | assumption) only [go_sem, ]
  case g9 => simp (disch := first | omega | assumption) only [go_sem, ]
  case g10 => simp (disch := first | omega | assumption) only [go_sem, ]
  case g3 => simp (disch := first | omega | assumption) only [go_sem, ]; try rfl
  case g11 => simp (disch := first | omega | assumption) only [go_sem, ]; try rfl
  rintro q a s' ⟨rfl, T, i, rfl, g0, g9, g10, g3, g11, hi, rfl⟩
  by_cases hik : i < vs.length
  · have hil : i < ls.length := by rw [← hv.1]; exact hik
    obtain ⟨⟨va, vc, hvi⟩, hsrc⟩ := hv.2 i vs[i] ls[i] (List.getElem?_eq_getElem hik) (List.getElem?_eq_getElem hil)
    have hcell : vs[i]? = some (.slice va ls[i].length vc) := by rw [List.getElem?_eq_getElem hik, hvi]
    have hstep : (ls.take (i + 1)).flatten.length = (ls.take i).flatten.length + ls[i].length := by rw [← List.take_append_getElem hil, List.flatten_append, List.length_append]; simp
    have hle : (ls.take (i + 1)).flatten.length ≤ ls.flatten.length := by
      have := congrArg (fun l => l.flatten.length) (List.take_append_drop (i + 1) ls)
      simp only [List.flatten_append, List.length_append] at this
      omega
    rw [hstep] at hle
    (try first | refine EvO.nx ?_ | refine EvA.nx ?_); repeat' (first | refine Abs.goH (Abs.cc g0 (Abs.cc g9 (Abs.cc g10 (Abs.cc g3 (Abs.cc g11 (Abs.cc hbk (hcell))))))) ?_ | with_reducible refine Abs.fork (fun hb => ?_) (fun hb => ?_))
    refine ⟨vs.length - (i + 1), by omega, rfl, _, i + 1, rfl, ?_, ?_, ?_, ?_, ?_, by omega, rfl⟩
    · simp (disch := first | omega | assumption) only [go_sem, g0]
    · simp (disch := first | omega | assumption) only [go_sem, g9]
    · simp (disch := first | omega | assumption) only [go_sem, g10]
    · simp (disch := first | omega | assumption) only [go_sem, hstep, Int.natCast_add]
    · simp (disch := first | omega | assumption) only [go_sem, Int.natCast_add, Int.natCast_one]
  · obtain rfl : i = vs.length := by omega
    have hall : ls.take vs.length = ls := List.take_of_length_le (by rw [hv.1]; exact Nat.le_refl _)
    rw [hall] at g3
    clear hi hik
    (try first | refine EvO.nx ?_ | refine EvA.nx ?_); repeat' (first | refine Abs.goH (Abs.cc g0 (Abs.cc g9 (Abs.cc g10 (Abs.cc g3 (Abs.cc g11 (hbk)))))) ?_ | with_reducible refine Abs.fork (fun hb => ?_) (fun hb => ?_))
    refine grow_ev hn hwf hl fun v1 s1 k1 o1 => ⟨_, _, rfl, ?_⟩
    have hb1 := k1.old _ _ hbk
    (try first | refine EvO.nx ?_ | refine EvA.nx ?_); repeat' (first | refine Abs.goH (Abs.cc g0 (Abs.cc g9 (Abs.cc g10 (Abs.cc g3 (Abs.cc g11 (hb1)))))) ?_ | with_reducible refine Abs.fork (fun hb => ?_) (fun hb => ?_))
    refine Ev.loop (fun q a s2 => ∃ T i v2, a = ⟨T, 36, []⟩ ∧ T.get 25 = some (.slice (some ⟨b, 0, none⟩) vs.length c) ∧ T.get 26 = some (.int .i64 (vs.length : Int)) ∧ T.get 6 = some v2 ∧ T.get 27 = some (.int .i64 ((i : Nat) : Int)) ∧ i ≤ vs.length ∧ q = vs.length - i ∧ Keep s' s2 ∧ Own s2 s'.next 5 1 v2 (ls.take i).flatten.length (byteCells (ls.take i).flatten)) (k := vs.length)
      ⟨_, 0, v1, rfl, ?p25, ?p26, ?p6, ?p27, Nat.zero_le _, rfl, k1, o1⟩ ?_
    case p25 => simp (disch := first | omega | assumption) only [go_sem, g0]
    case p26 => simp (disch := first | omega | assumption) only [go_sem, g0]
    case p6 => simp (disch := first | omega | assumption) only [go_sem, g0]
    case p27 => simp (disch := first | omega | assumption) only [go_sem, g0]; try rfl
    clear g0 g9 g10 g3 g11
    rintro q a s2 ⟨T, i, v2, rfl, p25, p26, p6, p27, hi, rfl, k2, o2⟩
    have hb2 := k2.old _ _ hbk
    by_cases hik : i < vs.length
    · have hil : i < ls.length := by rw [← hv.1]; exact hik
      have hvi := hv.2 i vs[i] ls[i] (List.getElem?_eq_getElem hik) (List.getElem?_eq_getElem hil)
      obtain ⟨⟨va, vc, hva⟩, hsrc⟩ := hvi.mono k2.old
      have hcell : vs[i]? = some (.slice va ls[i].length vc) := by rw [List.getElem?_eq_getElem hik, hva]
      rw [hva] at hsrc
      have hflat : (ls.take (i + 1)).flatten = (ls.take i).flatten ++ ls[i] := by rw [← List.take_append_getElem hil, List.flatten_append]; simp
      have hle : (ls.take (i + 1)).flatten.length ≤ ls.flatten.length := by
        have := congrArg (fun l => l.flatten.length) (List.take_append_drop (i + 1) ls)
        simp only [List.flatten_append, List.length_append] at this
        omega
      have hle2 := hle
      rw [hflat, List.length_append] at hle2
      (try first | refine EvO.nx ?_ | refine EvA.nx ?_); repeat' (first | refine Abs.goH (Abs.cc p25 (Abs.cc p26 (Abs.cc p6 (Abs.cc p27 (Abs.cc hb2 (hcell)))))) ?_ | with_reducible refine Abs.fork (fun hb => ?_) (fun hb => ?_))
      refine EvO.appendOwnW k2.wf Tryz.underlying28 Ty.sz5 Ty.by5 Ty.ze5 rfl (by decide) o2 k2.next ((appSrc_slice Tryz.underlying28).trans hsrc) (by rw [byteCells_len, Nat.mul_one]) (byteCells_one _) (by omega) (by omega) fun v3 s3 o3 w3 n3 b3 p3 => ?_
      (try first | refine EvO.nx ?_ | refine EvA.nx ?_); repeat' (first | refine Abs.goH (Abs.cc p25 (Abs.cc p26 (Abs.cc p6 (p27)))) ?_ | with_reducible refine Abs.fork (fun hb => ?_) (fun hb => ?_))
      refine ⟨vs.length - (i + 1), by omega, _, i + 1, v3, rfl, ?_, ?_, ?_, ?_, by omega, rfl, k2.but w3 n3 p3 hwf, ?_⟩
      · simp (disch := first | omega | assumption) only [go_sem, p25]
      · simp (disch := first | omega | assumption) only [go_sem, p26]
      · simp (disch := first | omega | assumption) only [go_sem, ]
      · simp (disch := first | omega | assumption) only [go_sem, Int.natCast_add, Int.natCast_one]
      · rw [hflat, List.length_append, byteCells_append]
        exact o3
    · obtain rfl : i = vs.length := by omega
      rw [hall] at o2
      (try first | refine EvO.nx ?_ | refine EvA.nx ?_); repeat' (first | refine Abs.goH (Abs.cc p25 (Abs.cc p26 (Abs.cc p6 (p27)))) ?_ | with_reducible refine Abs.fork (fun hb => ?_) (fun hb => ?_))
      exact h _ _ k2 o2
theorem lit4 (a b c d : Option Addr) (a1 a2 b1 b2 c1 c2 d1 d2 : Nat) : aSliceLit Tryz.prog 28 4 [(0, .slice a a1 a2), (1, .slice b b1 b2), (2, .slice c c1 c2), (3, .slice d d1 d2)] = .ok (.cells [.slice a a1 a2, .slice b b1 b2, .slice c c1 c2, .slice d d1 d2] 28 0 false (0, 0), fun n => .slice (some ⟨n, 0, none⟩) 4 4) := by kernel_rfl
theorem fappend_ev (hn : NoFrame Sm) (hm : Sm 112 = none) {s : St} (hwf : s.wf) {pv : Value} {p : List UInt8} (hp : BytesB s pv p) (hlen : p.length ≤ 1000000000) (h1 : 65536 < p.length → Q (.val (.tuple #[.slice none 0 0, .int .i64 2]) s)) (h2 : p.length ≤ 65536 → ∀ v s', Keep s s' → Own s' s.next 5 1 v (frameB p).length (byteCells (frameB p)) → Q (.val (.tuple #[v, .int .i64 0]) s')) :
    Ev Tryz.prog Sm (.inv (.fn (.func 68) #[]) [.slice none 0 0, pv] s) Q := by
  refine Ev.func hn.append Tryz.func68 rfl (m := 23) rfl ?_
  simp only [Array.toList_empty, List.append_nil, ofList_cons, ofList_nil]
  obtain ⟨⟨a, c, rfl⟩, hsrc⟩ := id hp
  by_cases hbig : 65536 < p.length
  · (try first | refine EvO.nx ?_ | refine EvA.nx ?_); repeat' (first | refine Abs.go ?_ | with_reducible refine Abs.fork (fun hb => ?_) (fun hb => ?_))
    exact h1 hbig
  · have hmod : p.length % 4294967296 = p.length := Nat.mod_eq_of_lt (by omega)
    (try first | refine EvO.nx ?_ | refine EvA.nx ?_); repeat' (first | refine Abs.goH hmod ?_ | with_reducible refine Abs.fork (fun hb => ?_) (fun hb => ?_))
    refine fnumber_ev hn hwf (by omega) fun b1 s1 k1 hb1 e1 => ⟨_, _, rfl, ?_⟩
    have f1 : BytesB s1 (.slice (some ⟨b1, 0, none⟩) 4 4) (le32 p.length) := ⟨⟨_, _, rfl⟩, src_cells e1 rfl⟩
    (try first | refine EvO.nx ?_ | refine EvA.nx ?_); repeat' (first | refine Abs.go ?_ | with_reducible refine Abs.fork (fun hb => ?_) (fun hb => ?_))
    refine fsum_ev hn hm f1 (hp.mono k1.old) (by rw [le32_len]; decide) (by omega) ⟨_, _, rfl, ?_⟩
    (try first | refine EvO.nx ?_ | refine EvA.nx ?_); repeat' (first | refine Abs.go ?_ | with_reducible refine Abs.fork (fun hb => ?_) (fun hb => ?_))
    refine fnumber_ev hn k1.wf (sumN_lt _ _) fun b2 s2 k2 hb2 e2 => ⟨_, _, rfl, ?_⟩
    have f2 : BytesB s2 (.slice (some ⟨b2, 0, none⟩) 4 4) (le32 (sumN (le32 p.length) p)) := ⟨⟨_, _, rfl⟩, src_cells e2 rfl⟩
    have hlit := lit4 none (some ⟨b1, 0, none⟩) (some ⟨b2, 0, none⟩) a 0 0 4 4 4 4 p.length c
    (try first | refine EvO.nx ?_ | refine EvA.nx ?_); repeat' (first | refine Abs.goH hlit ?_ | with_reducible refine Abs.fork (fun hb => ?_) (fun hb => ?_))
    have k3 : Keep s ⟨s2.heap.set s2.next (.cells [.slice none 0 0, .slice (some ⟨b1, 0, none⟩) 4 4, .slice (some ⟨b2, 0, none⟩) 4 4, .slice a p.length c] 28 0 false (0, 0)), s2.next + 1⟩ := (k1.trans k2).trans ((Keep.refl k2.wf).new _)
    have hnil := BytesB.nil ⟨s2.heap.set s2.next (.cells [.slice none 0 0, .slice (some ⟨b1, 0, none⟩) 4 4, .slice (some ⟨b2, 0, none⟩) 4 4, .slice a p.length c] 28 0 false (0, 0)), s2.next + 1⟩
    have kk := (Keep.refl k2.wf).new (.cells [.slice none 0 0, .slice (some ⟨b1, 0, none⟩) 4 4, .slice (some ⟨b2, 0, none⟩) 4 4, .slice a p.length c] 28 0 false (0, 0))
    have g1 := (f1.mono k2.old).mono kk.old
    have g2 := f2.mono kk.old
    have g3 := hp.mono k3.old
    have hflat : ([[], le32 p.length, le32 (sumN (le32 p.length) p), p] : List (List UInt8)).flatten = frameB p := by
      unfold frameB
      simp
    have hfl := frameB_len p
    refine concat_ev hn k3.wf (vs := [.slice none 0 0, .slice (some ⟨b1, 0, none⟩) 4 4, .slice (some ⟨b2, 0, none⟩) 4 4, .slice a p.length c]) (ls := [[], le32 p.length, le32 (sumN (le32 p.length) p), p]) (get_same _ _ _) ⟨rfl, fun i v l hv hl => ?_⟩ (by rw [hflat]; omega) (by simp) fun v s4 k4 o4 => ⟨_, _, rfl, ?_⟩
    · match i, hv, hl with
      | 0, hv, hl => cases hv; cases hl; exact hnil
      | 1, hv, hl => cases hv; cases hl; exact g1
      | 2, hv, hl => cases hv; cases hl; exact g2
      | 3, hv, hl => cases hv; cases hl; exact g3
    · rw [hflat] at o4
      (try first | refine EvO.nx ?_ | refine EvA.nx ?_); repeat' (first | refine Abs.go ?_ | with_reducible refine Abs.fork (fun hb => ?_) (fun hb => ?_))
      exact h2 (by omega) v s4 (k3.trans k4) (o4.down k3.next)
end
end Go.Proofs.YtbakhdgiimjnkaaGreatDoor

/-
  frame: what Scan does, at the evaluator.
-/
namespace Go.Proofs.YtbakhdgiimjnkaaGreatDoor
open Abs
set_option maxHeartbeats 16000000
set_option maxRecDepth 20000
set_option linter.unusedSimpArgs false
attribute [local irreducible] Abs.Ev Abs.EvF Abs.EvO Abs.EvA Abs.Seq Abs.Blk Abs.Body Abs.Scp Abs.EvG Abs.EvAg Abs.Nx
attribute [local go_sem] Tryz.underlying3 Ty.sz3 Ty.by3 Ty.ag3 Ty.ze3 Tryz.underlying4 Ty.sz4 Ty.by4 Ty.ag4 Ty.ze4 Tryz.underlying5 Ty.sz5 Ty.by5 Ty.ag5 Ty.ze5 Tryz.underlying9 Ty.sz9 Ty.by9 Ty.ag9 Ty.ze9 Tryz.underlying28 Ty.sz28 Ty.by28 Ty.ag28 Ty.ze28 Tryz.underlying29 Ty.sz29 Ty.by29 Ty.ag29 Ty.ze29 Tryz.underlying59 Ty.sz59 Ty.by59 Ty.ag59 Ty.ze59 Tryz.underlying121 Ty.sz121 Ty.by121 Ty.ag121 Ty.ze121
section
variable {Sm : Summ} {Q : Ans → Prop}
/-- texts of bytes, as they lie -/
def AllT (s : St) (lo : Nat) (vs : List Value) (ps : List (List UInt8)) : Prop := vs.length = ps.length ∧ ∀ (i : Nat) (v : Value) (l : List UInt8), vs[i]? = some v → ps[i]? = some l → TxtB s lo v l
def RecsAt (s : St) (lo : Nat) (v : Value) (ps : List (List UInt8)) : Prop := ∃ vs, Own s lo 28 1 v ps.length vs ∧ AllT s lo vs ps
theorem TxtB.but {s s' : St} {e : TypeId} {sz lo : Nat} {v : Value} {l : List UInt8} (he : e ≠ 5) (hk : SameBut e sz s s') (h : TxtB s lo v l) : TxtB s' lo v l := by
  cases h with
  | nil => exact .nil
  | zero h => exact .zero (hk _ _ h (by simp))
  | own h hl ho => exact .own (hk _ _ h (by intro l e; injection e with _ e; exact he e.symm)) hl ho
theorem TxtB.down {s : St} {lo lo' : Nat} {v : Value} {l : List UInt8} (h : TxtB s lo v l) (hl : lo' ≤ lo) : TxtB s lo' v l := h.mono (fun _ _ h => h) hl
theorem AllT.mono {s s' : St} {lo : Nat} {vs : List Value} {ps : List (List UInt8)} (hk : ∀ b x, s.heap.get b = some x → s'.heap.get b = some x) (h : AllT s lo vs ps) : AllT s' lo vs ps := ⟨h.1, fun i v l h1 h2 => (h.2 i v l h1 h2).mono hk (Nat.le_refl _)⟩
theorem AllT.but {s s' : St} {lo : Nat} {vs : List Value} {ps : List (List UInt8)} (hk : SameBut 28 1 s s') (h : AllT s lo vs ps) : AllT s' lo vs ps := ⟨h.1, fun i v l h1 h2 => (h.2 i v l h1 h2).but (by decide) hk⟩
theorem AllT.snoc {s : St} {lo : Nat} {vs : List Value} {ps : List (List UInt8)} {v : Value} {p : List UInt8} (h : AllT s lo vs ps) (hv : TxtB s lo v p) : AllT s lo (vs ++ [v]) (ps ++ [p]) := by
  refine ⟨by simp [h.1], fun i w l h1 h2 => ?_⟩
  by_cases hi : i < vs.length
  · rw [List.getElem?_append_left hi] at h1
    rw [List.getElem?_append_left (by rw [← h.1]; exact hi)] at h2
    exact h.2 i w l h1 h2
  · have h3 := List.getElem?_eq_some_iff.1 h1
    obtain ⟨h3, _⟩ := h3
    rw [List.length_append, List.length_singleton] at h3
    obtain rfl : i = vs.length := by omega
    rw [List.getElem?_append_right (Nat.le_refl _), Nat.sub_self] at h1
    rw [h.1, List.getElem?_append_right (Nat.le_refl _), Nat.sub_self] at h2
    cases h1
    cases h2
    exact hv
theorem cut_drop {L : List UInt8} {o n : Nat} (h : o + n ≤ L.length) : cutN (byteCells L) o n = some (byteCells ((L.drop o).take n)) := by
  rw [cutN_eq, if_pos (by rw [byteCells_len]; omega), byteCells_eq, byteCells_eq, List.map_take, List.map_drop]
attribute [local go_sem] Nat.mul_one
set_option maxRecDepth 20000 in
theorem scan_ev (hn : NoFrame Sm) (hm : Sm 112 = none) {s : St} (hwf : s.wf) {bv : Value} {lo : Nat} {l : List UInt8} (hv : TxtB s lo bv l) (hl : l.length ≤ 1073741824)
    (h : ∀ v s', Keep s s' → RecsAt s' s.next v (scanB l).1 → Q (.val (.tuple #[v, .int .i64 ((scanB l).2.1 : Int), .int .i64 ((scanB l).2.2 : Int)]) s')) :
    Ev Tryz.prog Sm (.inv (.fn (.func 57) #[]) [bv] s) Q := by
  refine Ev.func hn.scan Tryz.func57 rfl (m := 63) rfl ?_
  simp only [Array.toList_empty, List.append_nil, ofList_cons, ofList_nil]
  obtain ⟨a, c, hbv⟩ : ∃ a c, bv = .slice a l.length c := hv.bytes.1
  (try first | refine EvO.nx ?_ | refine EvA.nx ?_); repeat' (first | refine Abs.go ?_ | with_reducible refine Abs.fork (fun hb => ?_) (fun hb => ?_))
  refine Ev.loop (fun q a' s2 => ∃ T used v vs ps, a' = ⟨T, 63, []⟩ ∧ T.get 0 = some (.slice a l.length c) ∧ T.get 2 = some v ∧ T.get 3 = some (.int .i64 ((used : Nat) : Int)) ∧ T.get 4 = some (.int .i64 0) ∧ used ≤ l.length ∧ ps.length ≤ used ∧ q = l.length - used ∧ Keep s s2 ∧ Own s2 s.next 28 1 v ps.length vs ∧ AllT s2 s.next vs ps ∧
      scanB l = (ps ++ (scanB (l.drop used)).1, used + (scanB (l.drop used)).2.1, (scanB (l.drop used)).2.2)) (k := l.length)
    ⟨_, 0, .slice none 0 0, [], [], rfl, ?g0, ?g2, ?g3, ?g4, Nat.zero_le _, Nat.le_refl _, rfl, Keep.refl hwf, .nil, ⟨rfl, fun i v l h => by simp at h⟩, by rw [List.drop_zero, List.nil_append, Nat.zero_add]⟩ ?_
  case g0 => rw [← hbv]; simp (disch := first | omega | assumption) only [go_sem, ]
  case g2 => simp (disch := first | omega | assumption) only [go_sem, ]
  case g3 => simp (disch := first | omega | assumption) only [go_sem, ]; try rfl
  case g4 => simp (disch := first | omega | assumption) only [go_sem, ]
  rintro q a' s2 ⟨T, used, v, vs, ps, rfl, g0, g2, g3, g4, hu, hpu, rfl, k2, o2, t2, hsc⟩
  obtain ⟨va, vc, hva⟩ := o2.vec.src.2
  by_cases hlt : used < l.length
  · obtain ⟨b, hb1, hb2, hb3⟩ : ∃ b, a = some ⟨b, 0, none⟩ ∧ c = open_ ∧ s.heap.get b = some (.cells (byteCells l) 5 1 true (0, 0)) := by
      cases hv with
      | nil => exact absurd hlt (by simp)
      | zero _ => exact absurd hlt (by simp)
      | own hx _ _ => cases hbv; exact ⟨_, rfl, rfl, hx⟩
    subst hb1 hb2
    have hbk := k2.old _ _ hb3
    have hbl := byteCells_len l
    have hml : (l.drop used).length = l.length - used := by rw [List.length_drop]
    generalize hm2 : l.drop used = m at *
    have hcm : ∀ o n, o + n ≤ m.length → cutN (byteCells l) (used + o) n = some (byteCells ((m.drop o).take n)) := fun o n ho => by
      rw [cut_drop (by omega), ← hm2, List.drop_drop]
    have hsm := scanB_eq m
    rw [if_neg (by omega)] at hsm
    by_cases h8 : m.length < 8
    · rw [if_pos h8] at hsm
      rw [hsm, List.append_nil] at hsc
      (try first | refine EvO.nx ?_ | refine EvA.nx ?_); repeat' (first | refine Abs.goH (Abs.cc g0 (Abs.cc g2 (Abs.cc g3 (Abs.cc g4 (Abs.cc hbk (hbl)))))) ?_ | with_reducible refine Abs.fork (fun hb => ?_) (fun hb => ?_))
      have h' := h v s2 k2 ⟨vs, by rw [hsc]; exact o2, by rw [hsc]; exact t2⟩
      rw [hsc] at h'
      exact h'
    · rw [if_neg h8] at hsm
      have hc0 := hcm 0 m.length (by omega)
      rw [List.drop_zero, List.take_length, Nat.add_zero] at hc0
      have hrl := rd32_lt m
      (try first | refine EvO.nx ?_ | refine EvA.nx ?_); repeat' (first | refine Abs.goH (Abs.cc g0 (Abs.cc g2 (Abs.cc g3 (Abs.cc g4 (Abs.cc hbk (hbl)))))) ?_ | with_reducible refine Abs.fork (fun hb => ?_) (fun hb => ?_))
      refine fread_ev hn hbk hml.symm (by omega) (by rw [← hml]; exact hc0) ⟨_, _, rfl, ?_⟩
      by_cases hbig : 65536 < rd32 m
      · rw [if_pos hbig] at hsm
        rw [hsm, List.append_nil] at hsc
        (try first | refine EvO.nx ?_ | refine EvA.nx ?_); repeat' (first | refine Abs.goH (Abs.cc g0 (Abs.cc g2 (Abs.cc g3 (g4)))) ?_ | with_reducible refine Abs.fork (fun hb => ?_) (fun hb => ?_))
        have h' := h v s2 k2 ⟨vs, by rw [hsc]; exact o2, by rw [hsc]; exact t2⟩
        rw [hsc] at h'
        exact h'
      · rw [if_neg hbig] at hsm
        have hmod : (rd32 m : Int) % 18446744073709551616 = (rd32 m : Int) := by omega
        by_cases hcut : m.length - 8 < rd32 m
        · rw [if_pos hcut] at hsm
          rw [hsm, List.append_nil] at hsc
          (try first | refine EvO.nx ?_ | refine EvA.nx ?_); repeat' (first | refine Abs.goH (Abs.cc g0 (Abs.cc g2 (Abs.cc g3 (g4)))) ?_ | with_reducible refine Abs.fork (fun hb => ?_) (fun hb => ?_))
          have h' := h v s2 k2 ⟨vs, by rw [hsc]; exact o2, by rw [hsc]; exact t2⟩
          rw [hsc] at h'
          exact h'
        · rw [if_neg hcut] at hsm
          (try first | refine EvO.nx ?_ | refine EvA.nx ?_); repeat' (first | refine Abs.goH (Abs.cc g0 (Abs.cc g2 (Abs.cc g3 (Abs.cc g4 (Abs.cc hbk (hbl)))))) ?_ | with_reducible refine Abs.fork (fun hb => ?_) (fun hb => ?_))
          refine Abs.Ev.regionD (n := 0) (l := [.go 0, .go 1, .go 3, .go 4, .go 5, .go 2, .again 4, .go 6, .go 7]) (by kernel_rfl) ?_
          (try first | refine EvO.nx ?_ | refine EvA.nx ?_); repeat' (first | refine Abs.goH (Abs.cc g0 (Abs.cc g2 (Abs.cc g3 (Abs.cc g4 (Abs.cc hbk (hbl)))))) ?_ | with_reducible refine Abs.fork (fun hb => ?_) (fun hb => ?_))
          have hc4 := hcm 4 (m.length - 4) (by omega)
          have hd4 : (m.drop 4).take (m.length - 4) = m.drop 4 := List.take_of_length_le (by rw [List.length_drop]; omega)
          rw [hd4] at hc4
          refine fread_ev hn hbk (l := m.drop 4) (by rw [List.length_drop]; omega) (by omega) (by rw [show l.length - used - 4 = m.length - 4 by omega]; exact hc4) ⟨_, _, rfl, ?_⟩
          (try first | refine EvO.nx ?_ | refine EvA.nx ?_); repeat' (first | refine Abs.goH (Abs.cc g0 (Abs.cc g2 (Abs.cc g3 (Abs.cc g4 (Abs.cc hbk (hbl)))))) ?_ | with_reducible refine Abs.fork (fun hb => ?_) (fun hb => ?_))
          have hn8 : (8 + (rd32 m : Int)).toNat - 8 = rd32 m := by omega
          rw [hn8]
          have hc44 := hcm 0 4 (by omega)
          rw [List.drop_zero, Nat.add_zero] at hc44
          have hc8 := hcm 8 (rd32 m) (by omega)
          have hB4 : BytesB s2 (.slice (some ⟨b, used, none⟩) 4 open_) (m.take 4) := (BytesC.part hbk (by rw [List.length_take]; omega) hc44).bytes
          have hpl : ((m.drop 8).take (rd32 m)).length = rd32 m := by rw [List.length_take, List.length_drop]; omega
          have hB8 : BytesB s2 (.slice (some ⟨b, used + 8, none⟩) (rd32 m) open_) ((m.drop 8).take (rd32 m)) := (BytesC.part hbk hpl.symm hc8).bytes
          refine fsum_ev hn hm hB4 hB8 (by rw [List.length_take]; omega) (by omega) ⟨_, _, rfl, ?_⟩
          by_cases hne : rd32 (m.drop 4) ≠ sumN (m.take 4) ((m.drop 8).take (rd32 m))
          · rw [if_pos hne] at hsm
            rw [hsm, List.append_nil] at hsc
            (try first | refine EvO.nx ?_ | refine EvA.nx ?_); repeat' (first | refine Abs.goH (Abs.cc g0 (Abs.cc g2 (Abs.cc g3 (g4)))) ?_ | with_reducible refine Abs.fork (fun hb => ?_) (fun hb => ?_))
            have h' := h v s2 k2 ⟨vs, by rw [hsc]; exact o2, by rw [hsc]; exact t2⟩
            rw [hsc] at h'
            exact h'
          · rw [if_neg hne] at hsm
            have hEq : rd32 (m.drop 4) = sumN (m.take 4) ((m.drop 8).take (rd32 m)) := by omega
            (try first | refine EvO.nx ?_ | refine EvA.nx ?_); repeat' (first | refine Abs.goH (Abs.cc g0 (Abs.cc g2 (Abs.cc g3 (g4)))) ?_ | with_reducible refine Abs.fork (fun hb => ?_) (fun hb => ?_))
            refine clone_ev hn.clone k2.wf hB8 (by omega) fun cv s3 k3 t3 => ⟨_, _, rfl, ?_⟩
            obtain ⟨ca, cc, hcv⟩ := t3.bytes.1
            subst hcv
            have o3 := o2.mono fun b l _ hx => k3.old b _ hx
            (try first | refine EvO.nx ?_ | refine EvA.nx ?_); repeat' (first | refine Abs.goH (Abs.cc g0 (Abs.cc g2 (Abs.cc g3 (g4)))) ?_ | with_reducible refine Abs.fork (fun hb => ?_) (fun hb => ?_))
            have kb := (Keep.refl k3.wf).new (.cells [.slice ca ((m.drop 8).take (rd32 m)).length cc] 28 0 false (0, 0))
            have k5 := (k2.trans k3).trans kb
            have o5 := o3.mono fun b l _ hx => kb.old b _ hx
            have n5 : s3.next + 1 = (⟨s3.heap.set s3.next (.cells [.slice ca ((m.drop 8).take (rd32 m)).length cc] 28 0 false (0, 0)), s3.next + 1⟩ : St).next := rfl
            refine EvO.appendOwn (m := 1) (nw := [.slice ca ((m.drop 8).take (rd32 m)).length cc]) kb.wf Tryz.underlying59 Ty.sz28 Ty.by28 Ty.ze28 rfl (by decide) o5 k5.next ((appSrc_slice Tryz.underlying59).trans (src_cells (get_same _ _ _) rfl)) rfl rfl (by decide) (by omega) (by omega) fun v6 s6 o6 w6 n6 b6 p6 => ?_
            have k6 := k5.but w6 n6 p6 hwf
            have t6 : AllT s6 s.next (vs ++ [.slice ca ((m.drop 8).take (rd32 m)).length cc]) (ps ++ [(m.drop 8).take (rd32 m)]) :=
              (((t2.mono k3.old).mono kb.old).but b6).snoc (((t3.mono kb.old (Nat.le_refl _)).but (by decide) b6).down k2.next)
            (try first | refine EvO.nx ?_ | refine EvA.nx ?_); repeat' (first | refine Abs.goH (Abs.cc g0 (Abs.cc g2 (Abs.cc g3 (g4)))) ?_ | with_reducible refine Abs.fork (fun hb => ?_) (fun hb => ?_))
            refine ⟨l.length - (used + (8 + rd32 m)), by omega, _, used + (8 + rd32 m), v6, _, _, rfl, ?_, ?_, ?_, ?_, by omega, by rw [List.length_append, List.length_singleton]; omega, rfl, k6, by rw [List.length_append, List.length_singleton]; exact o6, t6, ?_⟩
            · simp (disch := first | omega | assumption) only [go_sem, g0]
            · simp (disch := first | omega | assumption) only [go_sem, ]
            · simp (disch := first | omega | assumption) only [go_sem, Int.natCast_add]; try rfl
            · simp (disch := first | omega | assumption) only [go_sem, g4]
            · rw [← List.drop_drop, hm2, hsc, hsm]
              simp only [List.append_assoc, List.singleton_append, Nat.add_assoc]
  · obtain rfl : used = l.length := by omega
    rw [List.drop_length, scanB_nil, List.append_nil, Nat.add_zero] at hsc
    (try first | refine EvO.nx ?_ | refine EvA.nx ?_); repeat' (first | refine Abs.goH (Abs.cc g0 (Abs.cc g2 (Abs.cc g3 (g4)))) ?_ | with_reducible refine Abs.fork (fun hb => ?_) (fun hb => ?_))
    have h' := h v s2 k2 ⟨vs, by rw [hsc]; exact o2, by rw [hsc]; exact t2⟩
    rw [hsc] at h'
    exact h'
end
end Go.Proofs.YtbakhdgiimjnkaaGreatDoor

