/-
  What is built of parts; the built-in functions; all operations that change nothing together.
-/
import Derived.Test.YtbakhdgiimjnkaaGreatDoorAbsPure6
namespace Go.Proofs.YtbakhdgiimjnkaaGreatDoor.Abs

section
variable {P : Program} {φ : Phi} {h : Tr AObj} {w : World}

theorem VRel.cells {v v' : Value} (hv : VRel φ v v') : LRel φ (cellsOf v) v'.cells.toList := by
  have one : ∀ {a b : Value}, VRel φ a b → LRel φ [a] [b] := fun hab => .cons hab (.nil φ)
  cases hv with
  | agg h1 h3 => exact LRel.of_arr h1 h3
  | bool b => exact one (.bool b)
  | int k n => exact one (.int k n)
  | float k n => exact one (.float k n)
  | complex k a b => exact one (.complex k a b)
  | string s => exact one (.string s)
  | nilPtr => exact one .nilPtr
  | ptr o e => exact one (.ptr o e)
  | nilSlice => exact one .nilSlice
  | slice o e hc hn => exact one (.slice o e hc hn)
  | room e hs hc hn => exact one (.room e hs hc hn)
  | full a e ho => exact one (.full a e ho)
  | nilMap => exact one .nilMap
  | map e => exact one (.map e)
  | nilFunc => exact one .nilFunc
  | nilIface => exact one .nilIface
  | iface t k => exact one (.iface t k)
  | func hf h1 h2 i3 i4 => exact one (.func hf h1 h2 i3 i4)
  | tuple h1 h3 => exact one (.tuple h1 h3)

theorem foldl_set (off : Nat) : ∀ (vs : List Value) (k : Nat) (cs : Array Value), off + k + vs.length ≤ cs.size →
    ((vs.zipIdx k).foldl (fun (cs : Array Value) (x : Value × Nat) => cs.setIfInBounds (off + x.2) x.1) cs).toList = cs.toList.take (off + k) ++ (vs ++ cs.toList.drop (off + k + vs.length))
  | [], k, cs, _ => by simp
  | v :: vs, k, cs, hl => by
    rw [List.zipIdx_cons, List.foldl_cons, foldl_set off vs (k + 1) _ (by simp at hl ⊢; omega)]
    simp only [List.length_cons] at hl
    have hk : off + k < cs.toList.length := by simp; omega
    have hset : cs.toList.set (off + k) v = cs.toList.take (off + k) ++ v :: cs.toList.drop (off + k + 1) := by rw [List.set_eq_take_append_cons_drop, if_pos hk]
    have ht : (cs.toList.take (off + k)).length = off + k := by simp; omega
    simp only [Array.toList_setIfInBounds, hset]
    generalize cs.toList.take (off + k) = A at *
    have e1 : off + (k + 1) = A.length + 1 := by omega
    have e2 : A.length + 1 + vs.length = A.length + (vs.length + 1) := by omega
    rw [e1, e2, List.take_length_add_append, List.drop_length_add_append]
    simp only [List.take_succ_cons, List.take_zero, List.drop_succ_cons, List.drop_drop, List.append_assoc, List.cons_append, List.nil_append, List.length_cons]
    congr 4
    omega

/-- pairs of a place and a value -/
def PRel (φ : Phi) (ps qs : List (Nat × Value)) : Prop := ps.length = qs.length ∧ ∀ (i : Nat) (p q : Nat × Value), ps[i]? = some p → qs[i]? = some q → p.1 = q.1 ∧ VRel φ p.2 q.2
theorem fill_ok {place : Nat → Option (Nat × Nat)} : ∀ {ps qs : List (Nat × Value)} {cs r : List Value} {ds : Array Value}, fillR place ps cs = .ok r → PRel φ ps qs → LRel φ cs ds.toList →
    ∃ rs, Instr.fill place ds qs = some rs ∧ LRel φ r rs.toList ∧ r.length = cs.length
  | [], [], cs, r, ds, e, _, hc => by cases e; exact ⟨ds, rfl, hc, rfl⟩
  | [], q :: qs, cs, r, ds, e, hp, hc => by have := hp.1; simp at this
  | p :: ps, [], cs, r, ds, e, hp, hc => by have := hp.1; simp at this
  | (i, v) :: ps, (j, v') :: qs, cs, r, ds, e, hp, hc => by
    obtain ⟨rfl, hv⟩ := hp.2 0 _ _ rfl rfl
    simp only at hv
    have hr : PRel φ ps qs := ⟨by simpa using hp.1, fun n p q a b => hp.2 (n + 1) p q (by simpa using a) (by simpa using b)⟩
    unfold fillR at e
    obtain ⟨⟨off, size⟩, h1, e1⟩ := Rs.bind_ok e
    have h1 := Rs.of_ok h1
    obtain ⟨h2, e2⟩ := ifb_no e1
    obtain ⟨cs2, h3, e3⟩ := Rs.bind_ok e2
    obtain ⟨h4, rfl⟩ := over_some (Rs.of_ok h3)
    have hcl := hv.cells
    have hsz : (cellsOf v).length = size := by
      have := Nat.eq_of_beq_eq_true h2
      simpa [lenN_eq] using this
    have hsz' : v'.cells.size = size := by rw [← hsz, hcl.1]; simp
    have hle : off + v'.cells.size ≤ ds.size := by
      have := hc.1
      simp at this
      rw [hsz', ← this, ← hsz]; exact h4
    have hfold := foldl_set off v'.cells.toList 0 ds (by simpa using hle)
    simp only [Nat.add_zero] at hfold
    have hlen : v'.cells.toList.length = (cellsOf v).length := hcl.1.symm
    have hnew : LRel φ (cs.take off ++ (cellsOf v ++ cs.drop (off + (cellsOf v).length))) ((v'.cells.zipIdx.foldl (fun (cs : Array Value) (x : Value × Nat) => cs.setIfInBounds (off + x.2) x.1) ds).toList) := by
      rw [← Array.foldl_toList, Array.toList_zipIdx, hfold, hlen]
      exact (hc.take off).append (hcl.append (hc.drop _))
    obtain ⟨rs, f1, f2, f3⟩ := fill_ok e3 hr hnew
    refine ⟨rs, ?_, f2, by rw [f3]; simp; omega⟩
    unfold Instr.fill
    rw [h1]
    simp only
    rw [if_neg (by simp [hsz']; omega)]
    exact f1
theorem places_ok (w : World) : ∀ {fs : List Field} {pl : List (Nat × Nat)}, placesOf P fs = .ok pl → (fs.mapM (fun f => do pure (f.offset, ← sizeOf f.type)) : Sem (List (Nat × Nat))).run P w = .ok pl w
  | [], pl, e => by cases e; rfl
  | f :: fs, pl, e => by
    unfold placesOf mapR at e
    obtain ⟨p, h1, e1⟩ := Rs.bind_ok e
    obtain ⟨ps, h2, e2⟩ := Rs.bind_ok e1
    obtain ⟨s, h3, e3⟩ := Rs.bind_ok h1
    cases e2
    cases e3
    have ih := places_ok w (fs := fs) h2
    rw [List.mapM_cons]
    simp only [Sem.run_bind, szT_run h3 w, Result.andThen_ok, Sem.run_pure, ih]

theorem aBuild_ok {t : TypeId} {ps qs : List (Nat × Value)} {v : Value} (e : aBuild P t ps = .ok v) (hp : PRel φ ps qs) : ∃ v', (Instr.build t ⟨qs⟩).run P w = .ok v' w ∧ VRel φ v v' := by
  unfold aBuild at e
  obtain ⟨z, h1, e1⟩ := Rs.bind_ok e
  obtain ⟨u, h2, e2⟩ := Rs.bind_ok e1
  obtain ⟨z1, z2⟩ := zeroT_ok h1
  have hz : LRel φ (cellsOf z) z.cells.toList := (z2.rel φ).cells
  have hr := undT_run h2 w
  split at e2
  · rename_i fs
    obtain ⟨pl, h3, e3⟩ := Rs.bind_ok e2
    obtain ⟨cs, h4, e4⟩ := Rs.bind_ok e3
    cases e4
    obtain ⟨rs, f1, f2, _⟩ := fill_ok h4 hp hz
    have hpl : (fs.mapM (fun f => do pure (f.offset, ← sizeOf f.type)) : Sem (Array (Nat × Nat))).run P w = .ok ⟨pl⟩ w := by
      rw [Array.mapM_eq_mapM_toList, Sem.run_map, places_ok w h3]
      rfl
    refine ⟨.agg rs, ?_, .agg (by simpa using f2.1) fun i v v' a b => f2.2 i v v' (by simpa using a) (by simpa using b)⟩
    unfold Instr.build
    have f1' : Instr.fill (fun (i : Nat) => (⟨pl⟩ : Array (Nat × Nat))[i]?) z.cells qs = some rs := by
      have : (fun (i : Nat) => (⟨pl⟩ : Array (Nat × Nat))[i]?) = fun (i : Nat) => pl[i]? := by funext i; simp
      rw [this]; exact f1
    simp only [Sem.run_bind, z1, Result.andThen_ok, hr, hpl, f1', Sem.run_pure]
  · rename_i n el
    obtain ⟨s, h3, e3⟩ := Rs.bind_ok e2
    obtain ⟨cs, h4, e4⟩ := Rs.bind_ok e3
    cases e4
    obtain ⟨rs, f1, f2, _⟩ := fill_ok h4 hp hz
    refine ⟨.agg rs, ?_, .agg (by simpa using f2.1) fun i v v' a b => f2.2 i v v' (by simpa using a) (by simpa using b)⟩
    unfold Instr.build
    simp only [Sem.run_bind, z1, Result.andThen_ok, hr, szT_run h3 w, f1, Sem.run_pure]
  · cases e2
theorem pairs_ok {ρ : Operand → Rs Value} {ρ' : Operand → Value} (hρ : ∀ x v, ρ x = .ok v → VRel φ v (ρ' x)) : ∀ {l : List (Nat × Operand)} {ps : List (Nat × Value)}, mapR (fun p : Nat × Operand => (ρ p.2).bind fun v => .ok (p.1, v)) l = .ok ps → PRel φ ps (l.map fun p => (p.1, ρ' p.2))
  | [], ps, e => by cases e; exact ⟨rfl, fun i p q a => by simp at a⟩
  | (i, x) :: l, ps, e => by
    unfold mapR at e
    obtain ⟨p, h1, e1⟩ := Rs.bind_ok e
    obtain ⟨qs, h2, e2⟩ := Rs.bind_ok e1
    obtain ⟨v, h3, e3⟩ := Rs.bind_ok h1
    cases e2
    cases e3
    have ih := pairs_ok hρ h2
    refine ⟨by simp [ih.1], fun n p q a b => ?_⟩
    cases n with
    | zero => simp at a b; subst a b; exact ⟨rfl, hρ _ _ h3⟩
    | succ n => exact ih.2 n p q (by simpa using a) (by simpa using b)
theorem pBuild_ok {ρ : Operand → Rs Value} {ρ' : Operand → Value} (hρ : ∀ x v, ρ x = .ok v → VRel φ v (ρ' x)) {t : TypeId} {parts : Array (Nat × Operand)} {v : Value} (e : pBuild P t parts ρ = .ok v) :
    ∃ v', (Instr.build t (parts.map fun (i, x) => (i, ρ' x))).run P w = .ok v' w ∧ VRel φ v v' := by
  obtain ⟨ps, h1, h2⟩ := Rs.bind_ok e
  have hp := pairs_ok hρ h1
  obtain ⟨v', r1, r2⟩ := aBuild_ok (P := P) (w := w) h2 hp
  refine ⟨v', ?_, r2⟩
  have : (parts.map fun (i, x) => (i, ρ' x)) = ⟨parts.toList.map fun p => (p.1, ρ' p.2)⟩ := by
    apply Array.ext'
    simp
  rw [this]
  exact r1

theorem pFold_ok {f : Value → Value → Rs Value} {g : Value → Value → Sem Value} (hf : ∀ a b a' b' v, f a b = .ok v → VRel φ a a' → VRel φ b b' → (g a' b').run P w = .ok v w ∧ VRel φ v v) :
    ∀ {l l' : List Value} {a a' v : Value}, pFold f l a = .ok v → VRel φ a a' → LRel φ l l' → ∃ v', (l'.foldlM g a').run P w = .ok v' w ∧ VRel φ v v'
  | [], [], a, a', v, e, ha, hl => by cases e; exact ⟨a', rfl, ha⟩
  | [], b :: l', a, a', v, e, ha, hl => by have := hl.1; simp at this
  | b :: l, [], a, a', v, e, ha, hl => by have := hl.1; simp at this
  | b :: l, b' :: l', a, a', v, e, ha, hl => by
    have e' : (f a b).bind (pFold f l) = .ok v := e
    obtain ⟨u, h1, h2⟩ := Rs.bind_ok e'
    obtain ⟨r1, r2⟩ := hf _ _ _ _ _ h1 ha (hl.2 0 b b' rfl rfl)
    obtain ⟨v', r3, r4⟩ := pFold_ok hf h2 r2 (l' := l') ⟨by simpa using hl.1, fun i x y p q => hl.2 (i + 1) x y (by simpa using p) (by simpa using q)⟩
    refine ⟨v', ?_, r4⟩
    rw [List.foldlM_cons, Sem.run_bind, r1]
    exact r3

theorem pLen_ok (hm : HRel φ h w) {u : TypeDesc} {ts : Array TypeId} {t ty : TypeId} {args : Array Value} {x x' v : Value} (ht : ts[0]? = some t) (hu : P.underlying t = some u) (hx' : args[0]? = some x') (e : pLen2 h u x = .ok v) (hx : VRel φ x x') :
    ∃ v', (Builtin.len_ ts ty args).run P w = .ok v' w ∧ VRel φ v v' := by
  have hr := run_underlying hu w
  unfold Builtin.len_
  rw [ht, hx']
  simp only [Sem.run_bind, hr, Result.andThen_ok]
  unfold pLen2 at e
  split at e
  · rename_i s
    split at e <;> first | (cases e; done) | skip
    cases e; cases hx
    have hsz : s.data.toList.length = s.size := Array.length_toList (xs := s.data)
    refine ⟨_, rfl, ?_⟩
    rw [hsz]
    exact .int _ _
  · split at e <;> first | (cases e; done) | skip
    cases e
    cases hx <;> exact ⟨_, rfl, .int _ _⟩
  · split at e <;> first | (cases e; done) | skip
    obtain ⟨es, h1, e1⟩ := Rs.bind_ok e
    cases e1
    rcases mapOf_ok hm h1 hx with ⟨h2, rfl, rfl⟩ | ⟨q, L, fs, clock, h2, rfl, hL, hw, hl, _⟩
    · exact ⟨_, rfl, .int _ _⟩
    · have hg : (getObj L.blk).run P w = .ok (.map fs clock) w := by simp [getObj, Sem.run, hw]
      refine ⟨goInt fs.size, by simp [hg], ?_⟩
      have : es.length = fs.size := by simpa using hl
      rw [this]
      exact .int _ _
  · split at e <;> first | (cases e; done) | skip
    cases e
    refine ⟨goInt _, ?_, .int _ _⟩
    split <;> simp_all
theorem pCap_ok {e : TypeId} {ts : Array TypeId} {t ty : TypeId} {args : Array Value} {x x' v : Value} (ht : ts[0]? = some t) (hu : P.underlying t = some (.slice e)) (hx' : args[0]? = some x') (h : pCap2 x = .ok v) (hx : VRel φ x x') :
    ∃ v', (Builtin.cap_ ts ty args).run P w = .ok v' w ∧ VRel φ v v' := by
  have hr := run_underlying hu w
  unfold Builtin.cap_
  rw [ht, hx']
  simp only [Sem.run_bind, hr, Result.andThen_ok]
  unfold pCap2 at h
  split at h <;> first | (cases h; done) | skip
  obtain ⟨h1, h2⟩ := ifb_no h
  cases h2
  cases hx with
  | nilSlice => exact ⟨_, rfl, .int _ _⟩
  | slice o hL hc hn => exact ⟨_, rfl, .int _ _⟩
  | room => exact absurd h1 (by decide)
  | full => exact absurd h1 (by decide)

theorem pBuiltin_ok (hm : HRel φ h w) {b : Builtin} {ts : Array TypeId} {ty : TypeId} {vs : List Value} {args : Array Value} {v : Value} (e : pBuiltin P h b ts vs = .ok v) (hl : LRel φ vs args.toList) :
    ∃ v', (∀ cs : Array Bool, (builtin b ts ty cs args).run P w = .ok (.value v') w) ∧ VRel φ v v' := by
  unfold pBuiltin at e
  split at e <;> first | (cases e; done) | skip
  rename_i x r
  obtain ⟨x', r', ha⟩ : ∃ x' r', args.toList = x' :: r' := by
    cases h : args.toList with
    | nil => rw [h] at hl; have := hl.1; simp at this
    | cons x' r' => exact ⟨x', r', rfl⟩
  rw [ha] at hl
  have hx : VRel φ x x' := hl.2 0 x x' rfl rfl
  have hr : LRel φ r r' := ⟨by simpa using hl.1, fun i a b p q => hl.2 (i + 1) a b (by simpa using p) (by simpa using q)⟩
  have hx0 : args[0]? = some x' := by
    have : args.toList[0]? = some x' := by rw [ha]; rfl
    simpa using this
  split at e
  · obtain ⟨v', r1, r2⟩ := pFold_ok (P := P) (w := w) (g := Builtin.min2) (fun _ _ _ _ _ a b c => pMin_ok a b c) e hx hr
    refine ⟨v', ?_, r2⟩
    have : (Builtin.min_ ts ty args).run P w = .ok v' w := by
      unfold Builtin.min_
      rw [ha]; exact r1
    exact fun cs => by simp [builtin, this]
  · obtain ⟨v', r1, r2⟩ := pFold_ok (P := P) (w := w) (g := Builtin.max2) (fun _ _ _ _ _ a b c => pMax_ok a b c) e hx hr
    refine ⟨v', ?_, r2⟩
    have : (Builtin.max_ ts ty args).run P w = .ok v' w := by
      unfold Builtin.max_
      rw [ha]; exact r1
    exact fun cs => by simp [builtin, this]
  · split at e <;> first | (cases e; done) | skip
    unfold pBuiltin1 at e
    obtain ⟨t, h1, e1⟩ := Rs.bind_ok e
    obtain ⟨u, h2, e2⟩ := Rs.bind_ok e1
    have h1 := Rs.of_ok h1
    split at e2
    · obtain ⟨v', r1, r2⟩ := pLen_ok (ty := ty) hm h1 (undT_ok h2) hx0 e2 hx
      exact ⟨v', fun cs => by simp [builtin, r1], r2⟩
    · split at e2 <;> first | (cases e2; done) | skip
      obtain ⟨v', r1, r2⟩ := pCap_ok (w := w) (ty := ty) h1 (undT_ok h2) hx0 e2 hx
      exact ⟨v', fun cs => by simp [builtin, r1], r2⟩
    · cases e2

theorem opt_rel {ρ : Operand → Rs Value} {ρ' : Operand → Value} (hρ : ∀ x v, ρ x = .ok v → VRel φ v (ρ' x)) {o : Option Operand} {l : List Value} (e : mapR ρ o.toList = .ok l) : LRel φ l (o.map ρ').toList := by
  have := mapR_ok hρ e
  cases o <;> exact this

/-- ALL OPERATIONS THAT CHANGE NOTHING. -/
theorem pOp_ok (hm : HRel φ h w) {o : Oper} {ρ : Operand → Rs Value} {ρ' : Operand → Value} (hρ : ∀ x v, ρ x = .ok v → VRel φ v (ρ' x)) {v : Value} (e : pOp P h o.op ρ = .ok v) :
    ∃ v', (execOp ρ' o).run P w = .ok (.value v') w ∧ VRel φ v v' := by
  obtain ⟨dst, op, type, pos, after, guard⟩ := o
  cases op <;> simp only [pOp] at e <;> first | (cases e; done) | skip
  case move x => exact ⟨_, rfl, hρ _ _ e⟩
  case assign x => exact ⟨_, rfl, hρ _ _ e⟩
  case pick c a b =>
    obtain ⟨u, h1, e1⟩ := Rs.bind_ok e
    have hc := hρ _ _ h1
    unfold pPick at e1
    split at e1 <;> first | (cases e1; done) | skip
    · have hz : ρ' c = .bool true := by generalize ρ' c = z at hc; cases hc; rfl
      exact ⟨_, by simp [execOp, hz, asBool], hρ _ _ e1⟩
    · have hz : ρ' c = .bool false := by generalize ρ' c = z at hc; cases hc; rfl
      exact ⟨_, by simp [execOp, hz, asBool], hρ _ _ e1⟩
  case binOp op t x y u =>
    obtain ⟨a, h1, e1⟩ := Rs.bind_ok e
    obtain ⟨b, h2, e2⟩ := Rs.bind_ok e1
    obtain ⟨v', r1, r2⟩ := aBin_ok (P := P) hm e2 (hρ _ _ h1) (hρ _ _ h2)
    exact ⟨v', run_v r1, r2⟩
  case unOp op t x =>
    obtain ⟨a, h1, e1⟩ := Rs.bind_ok e
    obtain ⟨v', r1, r2⟩ := aUn_ok (P := P) (w := w) e1 (hρ _ _ h1)
    exact ⟨v', run_v r1, r2⟩
  case convert s d x =>
    obtain ⟨a, h1, e1⟩ := Rs.bind_ok e
    obtain ⟨v', r1, r2⟩ := pConv_ok (P := P) hm e1 (hρ _ _ h1)
    exact ⟨v', run_v r1, r2⟩
  case sliceToArrayPointer t x =>
    obtain ⟨a, h1, e1⟩ := Rs.bind_ok e
    obtain ⟨v', r1, r2⟩ := pArray_ok (P := P) (w := w) e1 (hρ _ _ h1)
    exact ⟨v', run_v r1, r2⟩
  case makeInterface t x =>
    obtain ⟨a, h1, e1⟩ := Rs.bind_ok e
    obtain ⟨v', r1, r2⟩ := pIface_ok (P := P) (w := w) e1 (hρ _ _ h1)
    exact ⟨v', run_v r1, r2⟩
  case makeFunc fn f c =>
    obtain ⟨h1, e1⟩ := ifb_no e
    exact ⟨_, rfl, pFunc_ok hρ (fun l hl => by subst hl; cases h1) e1⟩
  case slice t x lo hi mx =>
    obtain ⟨a, h1, e1⟩ := Rs.bind_ok e
    obtain ⟨l1, h2, e2⟩ := Rs.bind_ok e1
    obtain ⟨l2, h3, e3⟩ := Rs.bind_ok e2
    obtain ⟨l3, h4, e4⟩ := Rs.bind_ok e3
    obtain ⟨v', r1, r2⟩ := pSlice_ok (P := P) hm e4 (hρ _ _ h1) (opt_rel hρ h2) (opt_rel hρ h3) (opt_rel hρ h4)
    exact ⟨v', run_v r1, r2⟩
  case fieldAddr t x f =>
    obtain ⟨a, h1, e1⟩ := Rs.bind_ok e
    obtain ⟨v', r1, r2⟩ := pFieldAddr_ok (P := P) (w := w) e1 (hρ _ _ h1)
    exact ⟨v', run_v r1, r2⟩
  case field t x f =>
    obtain ⟨a, h1, e1⟩ := Rs.bind_ok e
    obtain ⟨v', r1, r2⟩ := pField_ok (P := P) (w := w) e1 (hρ _ _ h1)
    exact ⟨v', run_v r1, r2⟩
  case indexAddr t x i =>
    obtain ⟨a, h1, e1⟩ := Rs.bind_ok e
    obtain ⟨b, h2, e2⟩ := Rs.bind_ok e1
    obtain ⟨v', r1, r2⟩ := pIndexAddr_ok (P := P) (w := w) e2 (hρ _ _ h1) (hρ _ _ h2)
    exact ⟨v', run_v r1, r2⟩
  case index t x i =>
    obtain ⟨a, h1, e1⟩ := Rs.bind_ok e
    obtain ⟨b, h2, e2⟩ := Rs.bind_ok e1
    obtain ⟨v', r1, r2⟩ := pIndex_ok (P := P) (w := w) e2 (hρ _ _ h1) (hρ _ _ h2)
    exact ⟨v', run_v r1, r2⟩
  case lookup t m k ok =>
    obtain ⟨a, h1, e1⟩ := Rs.bind_ok e
    obtain ⟨b, h2, e2⟩ := Rs.bind_ok e1
    obtain ⟨v', r1, r2⟩ := pLookup_ok (P := P) hm e2 (hρ _ _ h1) (hρ _ _ h2)
    exact ⟨v', run_v r1, r2⟩
  case extract t i =>
    obtain ⟨a, h1, e1⟩ := Rs.bind_ok e
    obtain ⟨v', r1, r2⟩ := pExtract_ok (P := P) (w := w) e1 (hρ _ _ h1)
    exact ⟨v', run_v r1, r2⟩
  case nilCheck x =>
    obtain ⟨a, h1, e1⟩ := Rs.bind_ok e
    exact pNilCheck_ok rfl e1 (hρ _ _ h1)
  case build t parts =>
    obtain ⟨v', r1, r2⟩ := pBuild_ok (P := P) (w := w) hρ e
    exact ⟨v', run_v r1, r2⟩
  case typeAssert x xt t ok =>
    obtain ⟨a, h1, e1⟩ := Rs.bind_ok e
    obtain ⟨v', r1, r2⟩ := pAssert_ok (P := P) (w := w) e1 (hρ _ _ h1)
    exact ⟨v', run_v r1, r2⟩
  case load t x =>
    obtain ⟨a, h1, e1⟩ := Rs.bind_ok e
    obtain ⟨v', r1, r2⟩ := pLoad_ok (P := P) hm e1 (hρ _ _ h1)
    exact ⟨v', run_v r1, r2⟩
  case call c =>
    unfold pCall at e
    obtain ⟨callee, args, argTypes⟩ := c
    split at e <;> first | (cases e; done) | skip
    rename_i b hb
    simp only at hb
    subst hb
    obtain ⟨vs, h1, e1⟩ := Rs.bind_ok e
    have hl : LRel φ vs (args.map ρ').toList := by simpa using mapR_ok hρ h1
    obtain ⟨v', r1, r2⟩ := pBuiltin_ok (P := P) (ty := type) hm e1 hl
    refine ⟨v', ?_, r2⟩
    unfold execOp resolve invoke
    simp only [Sem.run_bind, Sem.run_pure, Result.andThen_ok]
    exact r1 _
end
end Go.Proofs.YtbakhdgiimjnkaaGreatDoor.Abs
