/-
  THE EVALUATOR: regions that draw their order of evaluation; it is right whatever order is drawn. (The conditions stand in the row and the card that are given.) Written by an AI agent for this claim.
-/
import Derived.Test.YtbbpbklbmoeocaaGreatDoorEvD
set_option linter.unusedVariables false
set_option linter.unusedSimpArgs false
namespace Go.Abs

section
variable {C : Cfg} {rc : RC} {ops : Array Oper} {b : Array Nat} {nt nx0 : Nat} {st : Nat → Ds}

theorem isAlloc_iff {P : Program} {o : Oper} : isAlloc P o = true ↔ kindOf P o = .alloc := by
  unfold isAlloc
  cases kindOf P o <;> simp

theorem Trace.al_step (ht : Trace C rc ops b nt nx0 st) {i : Nat} {o : Oper} (ho : ops[i]? = some o) : (st (i + 1)).al = (st i).al + (cond (isAlloc C.P o) 1 0) := by
  have yes : kindOf C.P o = .alloc → cond (isAlloc C.P o) 1 0 = 1 := fun h => by rw [isAlloc_iff.2 h]; rfl
  have no : kindOf C.P o ≠ .alloc → cond (isAlloc C.P o) 1 0 = 0 := fun h => by
    cases hh : isAlloc C.P o with
    | true => exact absurd (isAlloc_iff.1 hh) h
    | false => rfl
  obtain ⟨w, v, _, hs, _⟩ := ht.step ho
  have he : ∀ hk : effD C.P o = true, kindOf C.P o ≠ .alloc := fun hk hh => by rw [effD_alloc hh] at hk; cases hk
  generalize hd : st (i + 1) = d' at hs
  cases hs with
  | idle _ _ hk => rw [no (by rw [hk]; simp)]; rfl
  | quiet _ _ _ hk => rw [no (by rw [hk]; simp)]; rfl
  | noAlloc _ _ hk => rw [yes hk]
  | alloc _ _ _ _ hk => rw [yes hk]
  | noEff _ _ hk => rw [no (he hk)]; rfl
  | eff _ _ _ _ _ hk => rw [no (he hk)]; rfl

theorem Trace.al_mono (ht : Trace C rc ops b nt nx0 st) {i : Nat} : ∀ j, i ≤ j → j ≤ ops.size → (st i).al ≤ (st j).al := by
  intro j
  induction j with
  | zero => intro h _; have : i = 0 := by omega
            subst this; exact Nat.le_refl _
  | succ j ih =>
    intro h hj
    rcases Nat.lt_or_ge j i with hlt | hge
    · have : i = j + 1 := by omega
      subst this; exact Nat.le_refl _
    · have := ih hge (by omega)
      rw [ht.al_step (i := j) (o := ops[j]) (by simp [show j < ops.size by omega])]
      omega

theorem Trace.al_count (ht : Trace C rc ops b nt nx0 st) (h0 : (st 0).al = 0) : ∀ j, j ≤ ops.size → (st j).al = ((ops.toList.take j).filter fun o => isAlloc C.P o).length := by
  intro j
  induction j with
  | zero => intro _; simpa using h0
  | succ j ih =>
    intro hj
    have hlt : j < ops.size := by omega
    rw [ht.al_step (i := j) (o := ops[j]) (by simp [hlt]), ih (by omega), List.take_succ_eq_append_getElem (by simpa using hlt), List.filter_append, List.length_append]
    congr 1
    simp only [Array.getElem_toList]
    cases hk : isAlloc C.P ops[j] with
    | true => rw [List.filter_cons_of_pos (by exact hk)]; rfl
    | false => rw [List.filter_cons_of_neg (by rw [hk]; simp)]; rfl

theorem Trace.al_lt (ht : Trace C rc ops b nt nx0 st) (h0 : (st 0).al = 0) {i : Nat} {o : Oper} (ho : ops[i]? = some o) (hk : kindOf C.P o = .alloc) : (st i).al < allocsOf C.P ops := by
  have hlt : i < ops.size := by
    rcases Nat.lt_or_ge i ops.size with hh | hh
    · exact hh
    · rw [Array.getElem?_eq_none hh] at ho; cases ho
  have h1 := ht.al_step ho
  rw [isAlloc_iff.2 hk] at h1
  simp only [cond_true] at h1
  have h2 := ht.al_count h0 ops.size (Nat.le_refl _)
  have h3 := ht.al_mono (i := i + 1) ops.size (by omega) (Nat.le_refl _)
  have : ops.toList.take ops.size = ops.toList := List.take_of_length_le (by simp)
  rw [this] at h2
  unfold allocsOf
  omega

theorem Trace.al_ne (ht : Trace C rc ops b nt nx0 st) {i j : Nat} {o q : Oper} (ho : ops[i]? = some o) (hk : kindOf C.P o = .alloc) (hq : ops[j]? = some q) (hk' : kindOf C.P q = .alloc) (hne : i ≠ j) : (st i).al ≠ (st j).al := by
  have lt : ∀ {i : Nat} {o : Oper}, ops[i]? = some o → i < ops.size := fun {i o} ho => by
    rcases Nat.lt_or_ge i ops.size with hh | hh
    · exact hh
    · rw [Array.getElem?_eq_none hh] at ho; cases ho
  rcases Nat.lt_or_ge i j with hlt | hge
  · have h1 := ht.al_step ho
    rw [isAlloc_iff.2 hk] at h1
    simp only [cond_true] at h1
    have := ht.al_mono (i := i + 1) j (by omega) (Nat.le_of_lt (lt hq))
    omega
  · have h1 := ht.al_step hq
    rw [isAlloc_iff.2 hk'] at h1
    simp only [cond_true] at h1
    have := ht.al_mono (i := j + 1) i (by omega) (Nat.le_of_lt (lt ho))
    omega

end

section
variable {C : Cfg} {rc : RC} {ops : Array Oper} {b : Array Nat} {st : Nat → Ds} {s0 : Fs} {φ0 : Ren} {w0 : World} {L : Nat → Prop} {m : Nat} {φ : Ren} {a : Act} {w : World} {j : Nat} {o : Oper}

/-- What an operation looks at, when it may come up. -/
theorem Inv.looks (I : Inv C ops st s0 φ0 w0 L m φ a w) (ht : Trace C rc ops b s0.nt s0.nx st) (tx : Txt C ops b) (ho : ops[j]? = some o) (hj : ¬ L j) (R1 : ∀ k, Nat.testBit (b.getD j 0) k = true → L k)
    (R2 : ∀ k, L k → Nat.testBit (b.getD k 0) j = false) {t : Tmp} (hl : t ∈ o.looksAt ops) : ∀ v, (st j).tm.get t = some v → ∃ c, a.tmps[t]? = some c ∧ VR φ v c := by
  obtain ⟨k, hkn, hk, hlt, hv⟩ := I.tm t
  have hjn : j < ops.size := by
    rcases Nat.lt_or_ge j ops.size with hh | hh
    · exact hh
    · rw [Array.getElem?_eq_none hh] at ho; cases ho
  have hkj : k ≤ j := by
    rcases hk with rfl | ⟨i, q, rfl, hLi, hq, hd⟩
    · omega
    · have hne : i ≠ j := fun e => hj (e ▸ hLi)
      rcases Nat.lt_or_ge j i with h1 | h1
      · have := (tx.tmps i q t j o hq hd ho hne (.inr hl)).2 h1
        rw [R2 i hLi] at this; cases this
      · omega
  intro v hg
  refine hv v ?_
  rw [← ht.tm_keep j hkj (by omega) (fun i q h1 h2 hq hd => ?_)]
  · exact hg
  · have := (tx.tmps i q t j o hq hd ho (by omega) (.inr hl)).1 h2
    have := hlt i q (R1 i this) hq hd
    omega

/-- The temporaries behind an operation. -/
theorem Inv.tm_next (I : Inv C ops st s0 φ0 w0 L m φ a w) (tx : Txt C ops b) (ho : ops[j]? = some o) (hj : ¬ L j) (R2 : ∀ k, L k → Nat.testBit (b.getD k 0) j = false)
    {φ' : Ren} (hle : φ.le φ') {v : AV} {c : Value} (hv : VR φ' v c) (hp : putT (st j).tm s0.nt o.dst v = some (st (j + 1)).tm) (t : Tmp) :
    ∃ k, k ≤ ops.size ∧ (k = 0 ∨ ∃ i o, k = i + 1 ∧ (L i ∨ i = j) ∧ ops[i]? = some o ∧ o.dst = some t) ∧ (∀ i o, (L i ∨ i = j) → ops[i]? = some o → o.dst = some t → i < k) ∧
      ∀ v, (st k).tm.get t = some v → ∃ c', (a.put o.dst c).tmps[t]? = some c' ∧ VR φ' v c' := by
  have hjn : j < ops.size := by
    rcases Nat.lt_or_ge j ops.size with hh | hh
    · exact hh
    · rw [Array.getElem?_eq_none hh] at ho; cases ho
  rcases putT_inv hp with ⟨hd, e⟩ | ⟨u, hd, hlt, e⟩
  · obtain ⟨k, h1, h2, h3, h4⟩ := I.tm t
    refine ⟨k, h1, h2.imp id (fun ⟨i, q, x, y, z⟩ => ⟨i, q, x, .inl y, z⟩), fun i q hi hq hdq => ?_, fun v' hg => ?_⟩
    · rcases hi with hi | rfl
      · exact h3 i q hi hq hdq
      · rw [ho] at hq; cases hq; rw [hd] at hdq; cases hdq
    · obtain ⟨c', g1, g2⟩ := h4 v' hg
      rw [hd]; exact ⟨c', g1, g2.mono hle⟩
  · by_cases htu : t = u
    · subst htu
      refine ⟨j + 1, by omega, .inr ⟨j, o, rfl, .inr rfl, ho, hd⟩, fun i q hi hq hdq => ?_, fun v' hg => ?_⟩
      · rcases hi with hi | rfl
        · rcases Nat.lt_or_ge j i with h1 | h1
          · have := (tx.tmps j o t i q ho hd hq (by omega) (.inl hdq)).1 h1
            rw [R2 i hi] at this; cases this
          · omega
        · omega
      · rw [e, T.get_set_self] at hg
        cases hg
        refine ⟨c, ?_, hv⟩
        rw [hd]
        simp [Act.put, I.tmsz, hlt]
    · obtain ⟨k, h1, h2, h3, h4⟩ := I.tm t
      refine ⟨k, h1, h2.imp id (fun ⟨i, q, x, y, z⟩ => ⟨i, q, x, .inl y, z⟩), fun i q hi hq hdq => ?_, fun v' hg => ?_⟩
      · rcases hi with hi | rfl
        · exact h3 i q hi hq hdq
        · rw [ho] at hq; cases hq; rw [hd] at hdq; cases hdq; exact absurd rfl htu
      · obtain ⟨c', g1, g2⟩ := h4 v' hg
        refine ⟨c', ?_, g2.mono hle⟩
        rw [hd]
        simp only [Act.put]
        rw [Array.getElem?_setIfInBounds_ne (fun hh => htu hh.symm)]; exact g1

end

end Go.Abs

namespace Go.Abs

theorem Does.wp' {P : Program} {h : T AB} {nx : Nat} {φ : Ren} {a : Act} {w : World} {rd : Option Nat} {F : Fence} (hF : FR φ rd F) {o : Oper} {v : AV} {h' : T AB} {nx' : Nat} {K : Act → World → Prop}
    (hd : Does P h nx φ w (o.semAt F.round a.eval) v h' nx') (hK : ∀ cv φ' w', VR φ' v cv → Rel h' nx' φ' w' → Fr h nx φ w h' nx' φ' w' → K (a.put o.dst cv) w') (Q : Exit → Act → World → Prop) :
    o.wpIn F 0 P a w K Q := by
  refine ⟨fun f _ => hF.fn f, ?_⟩
  have hnd : F.depth.isSome = true → 1 ≤ 0 := fun hh => by rw [hF.depth] at hh; cases hh
  rcases hd with ⟨cv, w', φ', hr, hv, r, f⟩ | ⟨fc, cargs, hr, hc⟩ | ⟨l, fc, tmps, asg, body, hr, hc⟩
  · rcases hr with hr | ⟨hr, rfl⟩
    · rw [hr, Oper.uponIn_value]
      exact hK _ _ _ hv r f
    · rw [hr, Oper.uponIn_skip]
      exact hK _ _ _ hv r f
  · rw [hr, Oper.uponIn_enter]
    refine ⟨hnd, (hF.calls hc).mono fun e w' ⟨cv, φ', he, hv, r, f⟩ => ?_⟩
    subst he
    exact hK _ _ _ hv r f
  · rw [hr, Oper.uponIn_round]
    refine ⟨hnd, (hF.rounds hc).mono fun e w' ⟨cv, φ', he, hv, r, f⟩ => ?_⟩
    subst he
    exact hK _ _ _ hv r f

theorem whoA_func' {G : Nat} {φ : Ren} {tm : T AV} {a : Act} {c : Call} {f : FuncId} {args : List AV} (hO : ∀ x ∈ c.operands, ∀ v, opnd G tm x = some v → VR φ v (a.eval x)) (hw : whoA G tm c = some (.func f args)) {o : Oper} :
    ∃ (da cap : Array Value), (∀ (P : Program) (w : World), (resolve a.eval c o.type).run P w = .ok { target := .fn (.func f) cap, args := da } w) ∧ VRs φ args (da ++ cap).toList := by
  unfold whoA at hw
  split at hw
  · rename_i g hg
    split at hw
    · rename_i f' fs cs vs h1 h2
      cases hw
      have hv := hO g (by simp [Call.operands, hg]) _ h1
      have hA := opnds_sound (φ := φ) (ρ := a.eval) c.args.toList vs h2 (fun x hx v hv => hO x (by simp [Call.operands, hg]; exact .inr (by simpa using hx)) v hv)
      cases hvr : a.eval g with
      | func fn fa ca =>
        rw [hvr] at hv
        cases hv with
        | func _ _ _ _ _ e1 e2 e3 e4 =>
          refine ⟨fa ++ c.args.map a.eval, ca, fun P w => ?_, ?_⟩
          · simp only [resolve, hg, Deferred.ofValue, hvr]; rfl
          · simp only [Array.toList_append, Array.toList_map]
            refine VRs.append (VRs.append ⟨by simpa using e1, fun i v c hv hc => e3 i v c hv (by simpa using hc)⟩ hA) ⟨by simpa using e2, fun i v c hv hc => e4 i v c hv (by simpa using hc)⟩
      | _ => rw [hvr] at hv; cases hv
    · cases hw
    · cases hw
  · cases hw

theorem actD_sound {C : Cfg} {rc : RC} (hE : ExtOk C) (hN : NamesOk C.P) (hrc : RcOk C.P C.G rc) {o : Oper} {h : T AB} {nx : Nat} {tm : T AV} {v : AV} {h' : T AB} {nx' : Nat} {φ : Ren} {a : Act} {w : World}
    (hO : OR φ C.G tm a.eval o.op.operands) (ha : actD C rc o h nx tm = some (v, h', nx')) (r : Rel h nx φ w) (gl : GL C.G φ) : (∀ c, o.op ≠ .defer c) ∧ Does C.P h nx φ w (execOp a.eval o) v h' nx' := by
  unfold actD at ha
  split at ha
  · rename_i hk
    exact ⟨(fun c hh => by simp only [kindOf, hh] at hk; cases hk), .inl (eop_sound r hO ha)⟩
  · split at ha
    · rename_i c ho
      split at ha
      · rename_i f args hw
        refine ⟨(fun c' hh => by rw [ho] at hh; cases hh), ?_⟩
        rw [ho] at hO
        obtain ⟨da, cap, h1, h2⟩ := whoA_func' (φ := φ) (a := a) (o := o) (fun x hx v hv => hO x (by simpa [Op.operands] using hx) v hv) hw
        have he : (execOp a.eval o).run C.P w = (callFunc f (da ++ cap)).run C.P w := by
          simp only [execOp, ho, Sem.run_bind, h1, Result.andThen_ok, invoke]
        rcases funcA_sound hE hN hrc ha h2 r gl with hd | ⟨f', ca, e1, e2⟩ | ⟨l, fn, tmps, asg, body, e1, e2⟩
        · exact .inl (ETurns.of_run he hd)
        · exact .inr (.inl ⟨f', ca, by rw [he]; exact e1, e2⟩)
        · exact .inr (.inr ⟨l, fn, tmps, asg, body, by rw [he]; exact e1, e2⟩)
      · cases ha
    · cases ha
  · cases ha

section
variable {C : Cfg} {rc : RC} {ops : Array Oper} {b : Array Nat} {st : Nat → Ds} {s0 : Fs} {φ0 : Ren} {w0 : World} {L : Nat → Prop} {m : Nat} {φ : Ren} {a : Act} {w : World} {j : Nat} {o : Oper}

theorem Inv.operands (I : Inv C ops st s0 φ0 w0 L m φ a w) (ht : Trace C rc ops b s0.nt s0.nx st) (tx : Txt C ops b) (ho : ops[j]? = some o) (hj : ¬ L j) (R1 : ∀ k, Nat.testBit (b.getD j 0) k = true → L k)
    (R2 : ∀ k, L k → Nat.testBit (b.getD k 0) j = false) : OR φ C.G (st j).tm a.eval o.op.operands := by
  intro x hx v hv
  cases x with
  | tmp t =>
    have hl : t ∈ o.looksAt ops := List.mem_append_left _ (List.mem_filterMap.2 ⟨.tmp t, hx, rfl⟩)
    obtain ⟨c, h1, h2⟩ := I.looks ht tx ho hj R1 R2 hl v hv
    simp only [Act.eval]
    rw [Array.getD_eq_getD_getElem?, h1]
    exact h2
  | const c => exact ofVal_sound c v hv
  | global g =>
    simp only [Abs.opnd] at hv
    obtain ⟨hb, hv⟩ := cond_none hv
    cases hv
    obtain ⟨sz, e⟩ := I.gl g (by simpa [Nat.blt_eq] using hb)
    have := VR.ptr (φ := φ) g 0 _ e
    simpa [Act.eval] using this
  | func f =>
    simp only [Abs.opnd] at hv
    cases hv
    exact .func f [] [] _ _ rfl rfl (fun i v c h => by simp at h) (fun i v c h => by simp at h)

theorem Inv.wanted (I : Inv C ops st s0 φ0 w0 L m φ a w) (ht : Trace C rc ops b s0.nt s0.nx st) (tx : Txt C ops b) (ho : ops[j]? = some o) (hj : ¬ L j) (R1 : ∀ k, Nat.testBit (b.getD j 0) k = true → L k)
    (R2 : ∀ k, L k → Nat.testBit (b.getD k 0) j = false) {wv : Bool} (hw : wantedA ops (st j).tm o = some wv) : Region.wanted o (yielded ops a.tmps) = wv := by
  have hlook : ∀ t, t ∈ o.looksAt ops → ∀ v, (st j).tm.get t = some v → ∃ c, a.tmps[t]? = some c ∧ VR φ v c := fun t hl => I.looks ht tx ho hj R1 R2 hl
  unfold wantedA at hw
  unfold Region.wanted
  split at hw
  · rename_i hg; cases hw; rw [hg]
  · rename_i i want hg
    rw [hg]
    simp only
    split at hw
    · rename_i q hq
      split at hw
      · rename_i d hd
        have hmem : d ∈ o.looksAt ops := by
          unfold Oper.looksAt
          rw [hg]
          simp [hq, hd]
        split at hw
        · rename_i v hv
          cases hw
          obtain ⟨c, h1, h2⟩ := hlook d hmem _ hv
          obtain rfl := h2.bool_inv
          simp only [yielded, hq, Option.bind_some, hd, h1]
          cases v <;> cases want <;> rfl
        · rename_i v hnb hv
          cases hw
          obtain ⟨c, h1, h2⟩ := hlook d hmem _ hv
          simp only [yielded, hq, Option.bind_some, hd, h1]
          cases h2 <;> first | rfl | exact absurd rfl (hnb _)
        · cases hw
      · cases hw
    · cases hw

theorem Made.lt {i id : Nat} {bl : AB} (h : Made C ops s0.nx st i id bl) : i < ops.size := by
  obtain ⟨o, ho, _⟩ := h
  rcases Nat.lt_or_ge i ops.size with hh | hh
  · exact hh
  · rw [Array.getElem?_eq_none hh] at ho; cases ho

/-- An operation that turns no memory: the invariant goes on. -/
theorem Inv.calm (I : Inv C ops st s0 φ0 w0 L m φ a w) (tx : Txt C ops b) (ho : ops[j]? = some o) (hj : ¬ L j) (R2 : ∀ k, L k → Nat.testBit (b.getD k 0) j = false)
    (he : effD C.P o = false) (hnm : ∀ id bl, ¬ Made C ops s0.nx st j id bl) {v : AV} {c : Value} (hv : VR φ v c) (hp : putT (st j).tm s0.nt o.dst v = some (st (j + 1)).tm) :
    Inv C ops st s0 φ0 w0 (fun i => L i ∨ i = j) m φ (a.put o.dst c) w where
  hm := I.hm
  eff_lt := fun e q hL hq hk => by
    rcases hL with hL | rfl
    · exact I.eff_lt e q hL hq hk
    · rw [ho] at hq; cases hq; rw [he] at hk; cases hk
  m_eff := I.m_eff.imp id (fun ⟨e, q, h1, h2, h3⟩ => ⟨e, q, h1, .inl h2, h3⟩)
  rel := I.rel
  fr := I.fr
  nxle := I.nxle
  tmsz := by rw [← I.tmsz]; cases o.dst <;> simp [Act.put]
  tm := fun t => I.tm_next tx ho hj R2 (Ren.le_refl φ) hv hp t
  fl := fun i id bl hL hM hm => by
    rcases hL with hL | rfl
    · exact I.fl i id bl hL hM hm
    · exact absurd hM (hnm _ _)
  flD := fun i id bl hL hM => by
    rcases hL with hL | rfl
    · exact I.flD i id bl hL hM
    · exact absurd hM (hnm _ _)
  flI := fun i k id id' bl bl' l l' hL hL' hne hM hM' => by
    rcases hL with hL | rfl
    · rcases hL' with hL' | rfl
      · exact I.flI i k id id' bl bl' l l' hL hL' hne hM hM'
      · exact absurd hM' (hnm _ _)
    · exact absurd hM (hnm _ _)
  free := fun i q hL hq hk => I.free i q (fun hh => hL (.inl hh)) hq hk
  df := by cases o.dst <;> exact I.df
  gl := I.gl

end

end Go.Abs

namespace Go.Abs

section
variable {C : Cfg} {rc : RC} {ops : Array Oper} {b : Array Nat} {st : Nat → Ds} {s0 : Fs} {φ0 : Ren} {w0 : World} {L : Nat → Prop} {m : Nat} {φ : Ren} {a : Act} {w : World} {j : Nat} {o : Oper}

/-- A block is made. -/
theorem Inv.alloc (I : Inv C ops st s0 φ0 w0 L m φ a w) (ht : Trace C rc ops b s0.nt s0.nx st) (h0 : (st 0).al = 0) (tx : Txt C ops b) (ho : ops[j]? = some o) (hj : ¬ L j) (R2 : ∀ k, L k → Nat.testBit (b.getD k 0) j = false)
    (hk : kindOf C.P o = .alloc) {bl : AB} {mk : Mk} (hM : Made C ops s0.nx st j (s0.nx + (st j).al) bl) (hp : putT (st j).tm s0.nt o.dst (mk.val (s0.nx + (st j).al)) = some (st (j + 1)).tm) {s : Sem Next} (hs : Makes C.P φ w s bl mk) :
    ∃ cv w', s.run C.P w = .ok (.value cv) w' ∧ ∃ φ', Inv C ops st s0 φ0 w0 (fun i => L i ∨ i = j) m φ' (a.put o.dst cv) w' ∧ φ.le φ' := by
  obtain ⟨ob, w', cv, sz, h1, h2, h3, h4, h5, h6, h7⟩ := hs
  have he := effD_alloc hk
  have hid : φ (s0.nx + (st j).al) = none := I.free j o hj ho hk
  have hal := ht.al_lt h0 ho hk
  have hnx : s0.nx + (st j).al < (st m).nx := by have := I.nxle; omega
  have hle : φ.le (φ.upd (s0.nx + (st j).al) ⟨w.heap.size, 0, sz⟩) := Ren.le_upd _ hid
  have hself : (φ.upd (s0.nx + (st j).al) ⟨w.heap.size, 0, sz⟩) (s0.nx + (st j).al) = some ⟨w.heap.size, 0, sz⟩ := Ren.upd_self _ _ _
  have hold : ∀ k ob', w.heap[k]? = some ob' → w'.heap[k]? = some ob' := fun k ob' hk => by
    have hlt : k < w.heap.size := by
      rcases Nat.lt_or_ge k w.heap.size with hh | hh
      · exact hh
      · rw [Array.getElem?_eq_none hh] at hk; cases hk
    rw [h2, Array.getElem?_push, if_neg (by omega)]; exact hk
  refine ⟨cv, w', h1, φ.upd (s0.nx + (st j).al) ⟨w.heap.size, 0, sz⟩, ?_, hle⟩
  refine { hm := I.hm, eff_lt := ?_, m_eff := I.m_eff.imp id (fun ⟨e, q, h1, h2, h3⟩ => ⟨e, q, h1, .inl h2, h3⟩), rel := I.rel.float hid hnx h2 sz, fr := ?_, nxle := I.nxle, tmsz := ?_, tm := fun t => I.tm_next tx ho hj R2 hle (h7 _ _ hself) hp t,
           fl := ?_, flD := ?_, flI := ?_, free := ?_, df := ?_, gl := I.gl.mono hle }
  · intro e q hL hq hk
    rcases hL with hL | rfl
    · exact I.eff_lt e q hL hq hk
    · rw [ho] at hq; cases hq; rw [he] at hk; cases hk
  · refine ⟨fun i hi => ?_, I.fr.nx, ?_, fun k hlt hno => ?_, fun k hk hlt => I.fr.own k (hk.of_upd I.rel hid) hlt, h3.trans I.fr.os, h4.trans I.fr.tape, h5.trans I.fr.output⟩
    · rw [Ren.upd_ne _ _ (by omega)]; exact I.fr.ren i hi
    · rw [h2, Array.size_push]; have := I.fr.size; omega
    · rw [← I.fr.old k hlt hno, h2, Array.getElem?_push, if_neg (by have := I.fr.size; omega)]
  · rw [← I.tmsz]; cases o.dst <;> simp [Act.put]
  · intro i id bl' hL hM' hmi
    rcases hL with hL | rfl
    · obtain ⟨l, ob', g1, g2, g3, g4, g5⟩ := I.fl i id bl' hL hM' hmi
      exact ⟨l, ob', hle _ _ g1, hold _ _ g2, g3.mono hle, g4, fun hh => g5 (hh.of_upd I.rel hid)⟩
    · obtain ⟨rfl, rfl⟩ := hM'.uniq hM
      refine ⟨⟨w.heap.size, 0, sz⟩, ob, hself, by rw [h2]; simp, h6.mono hle, I.fr.size, fun hh => ?_⟩
      have := I.rel.owns_lt (hh.of_upd I.rel hid)
      simp at this
  · intro i id bl' hL hM'
    rcases hL with hL | rfl
    · obtain ⟨l, g1, g2⟩ := I.flD i id bl' hL hM'
      exact ⟨l, hle _ _ g1, by rw [h2, Array.size_push]; omega⟩
    · obtain ⟨rfl, rfl⟩ := hM'.uniq hM
      exact ⟨_, hself, by rw [h2, Array.size_push]; exact Nat.lt_succ_self _⟩
  · intro i k id id' bl1 bl2 l l' hL hL' hne hM1 hM2 e1 e2
    have oldl : ∀ i id bl1 l, L i → Made C ops s0.nx st i id bl1 → (φ.upd (s0.nx + (st j).al) ⟨w.heap.size, 0, sz⟩) id = some l → φ id = some l ∧ l.blk < w.heap.size := by
      intro i id bl1 l hL hM1 e
      obtain ⟨l1, g1, g2⟩ := I.flD i id bl1 hL hM1
      have := hle _ _ g1
      rw [e] at this; cases this
      exact ⟨g1, g2⟩
    rcases hL with hL | rfl
    · obtain ⟨a1, a2⟩ := oldl i id bl1 l hL hM1 e1
      rcases hL' with hL' | rfl
      · obtain ⟨c1, c2⟩ := oldl k id' bl2 l' hL' hM2 e2
        exact I.flI i k id id' bl1 bl2 l l' hL hL' hne hM1 hM2 a1 c1
      · obtain ⟨rfl, rfl⟩ := hM2.uniq hM
        rw [hself] at e2; cases e2
        simp; omega
    · obtain ⟨rfl, rfl⟩ := hM1.uniq hM
      rw [hself] at e1; cases e1
      rcases hL' with hL' | rfl
      · obtain ⟨c1, c2⟩ := oldl k id' bl2 l' hL' hM2 e2
        simp; omega
      · exact absurd rfl hne
  · intro i q hL hq hkq
    have hne : i ≠ j := fun e => hL (.inr e)
    rw [Ren.upd_ne]
    · exact I.free i q (fun hh => hL (.inl hh)) hq hkq
    · have := ht.al_ne hq hkq ho hk hne
      omega
  · have := I.df.mono hle
    cases o.dst <;> exact this

/-- Ahead of an effect: memory as the evaluator has it. -/
theorem Inv.ahead (I : Inv C ops st s0 φ0 w0 L m φ a w) (ht : Trace C rc ops b s0.nt s0.nx st) (tx : Txt C ops b) (ho : ops[j]? = some o) (hj : ¬ L j) (R1 : ∀ k, Nat.testBit (b.getD j 0) k = true → L k)
    (R2 : ∀ k, L k → Nat.testBit (b.getD k 0) j = false) (hk : effD C.P o = true) : m ≤ j ∧ (st j).hp = (st m).hp ∧ (st j).nx = (st m).nx := by
  have hjn : j < ops.size := by
    rcases Nat.lt_or_ge j ops.size with hh | hh
    · exact hh
    · rw [Array.getElem?_eq_none hh] at ho; cases ho
  have hmj : m ≤ j := by
    rcases I.m_eff with h | ⟨e, q, rfl, hL, hq, hke⟩
    · omega
    · have hne : e ≠ j := fun hh => hj (hh ▸ hL)
      rcases Nat.lt_or_ge j e with hlt | hge
      · have := tx.effs j o e q ho hq hk hke hlt
        rw [R2 e hL] at this; cases this
      · omega
  refine ⟨hmj, ht.hp_keep j hmj (by omega) (fun i q h1 h2 hq => ?_)⟩
  cases hki : effD C.P q with
  | false => rfl
  | true =>
    have := R1 i (tx.effs i q j o hq ho hki hk h2)
    have := I.eff_lt i q this hq hki
    omega

/-- An effect that is not wanted. -/
theorem Inv.noEff (I : Inv C ops st s0 φ0 w0 L m φ a w) (ht : Trace C rc ops b s0.nt s0.nx st) (hf0 : (st 0).fl = []) (tx : Txt C ops b) (ho : ops[j]? = some o) (hj : ¬ L j) (R1 : ∀ k, Nat.testBit (b.getD j 0) k = true → L k)
    (R2 : ∀ k, L k → Nat.testBit (b.getD k 0) j = false) (hk : effD C.P o = true) (e1 : (st (j + 1)).hp = (st j).hp) (e2 : (st (j + 1)).nx = (st j).nx) (e3 : (st (j + 1)).fl = (st j).fl)
    (hnm : ∀ id bl, ¬ Made C ops s0.nx st j id bl) {v : AV} {c : Value} (hv : VR φ v c) (hp : putT (st j).tm s0.nt o.dst v = some (st (j + 1)).tm) :
    Inv C ops st s0 φ0 w0 (fun i => L i ∨ i = j) (j + 1) φ (a.put o.dst c) w := by
  obtain ⟨hmj, g1, g2⟩ := I.ahead ht tx ho hj R1 R2 hk
  have hjn : j < ops.size := by
    rcases Nat.lt_or_ge j ops.size with hh | hh
    · exact hh
    · rw [Array.getElem?_eq_none hh] at ho; cases ho
  have a1 : (st (j + 1)).hp = (st m).hp := e1.trans g1
  have a2 : (st (j + 1)).nx = (st m).nx := e2.trans g2
  refine { hm := by omega, eff_lt := ?_, m_eff := .inr ⟨j, o, rfl, .inr rfl, ho, hk⟩, rel := by rw [a1, a2]; exact I.rel, fr := by rw [a1, a2]; exact I.fr, nxle := by rw [a2]; exact I.nxle, tmsz := ?_,
           tm := fun t => I.tm_next tx ho hj R2 (Ren.le_refl φ) hv hp t, fl := ?_, flD := ?_, flI := ?_, free := fun i q hL hq hk => I.free i q (fun hh => hL (.inl hh)) hq hk, df := ?_, gl := I.gl }
  · intro e q hL hq hke
    rcases hL with hL | rfl
    · have := I.eff_lt e q hL hq hke; omega
    · omega
  · rw [← I.tmsz]; cases o.dst <;> simp [Act.put]
  · intro i id bl hL hM hmi
    rw [a1]
    rcases hL with hL | rfl
    · refine I.fl i id bl hL hM ?_
      rcases hmi with h | h
      · exact .inl (by omega)
      · rw [e3] at h
        exact (ht.fl_mem hf0 j (by omega) i id bl h).2.2 m hmj
    · exact absurd hM (hnm _ _)
  · intro i id bl hL hM
    rcases hL with hL | rfl
    · exact I.flD i id bl hL hM
    · exact absurd hM (hnm _ _)
  · intro i k id id' bl bl' l l' hL hL' hne hM hM'
    rcases hL with hL | rfl
    · rcases hL' with hL' | rfl
      · exact I.flI i k id id' bl bl' l l' hL hL' hne hM hM'
      · exact absurd hM' (hnm _ _)
    · exact absurd hM (hnm _ _)
  · cases o.dst <;> exact I.df

end

end Go.Abs

namespace Go.Abs

section
variable {C : Cfg} {rc : RC} {ops : Array Oper} {b : Array Nat} {st : Nat → Ds} {s0 : Fs} {φ0 : Ren} {w0 : World} {L : Nat → Prop} {m : Nat} {φ : Ren} {a : Act} {w : World} {j : Nat} {o : Oper}

theorem Inv.eff (I : Inv C ops st s0 φ0 w0 L m φ a w) (ht : Trace C rc ops b s0.nt s0.nx st) (hf0 : (st 0).fl = []) (h0 : (st 0).al = 0) (tx : Txt C ops b) (ho : ops[j]? = some o) (hj : ¬ L j)
    (R1 : ∀ k, Nat.testBit (b.getD j 0) k = true → L k) (R2 : ∀ k, L k → Nat.testBit (b.getD k 0) j = false) (hE : ExtOk C) (hN : NamesOk C.P) (hrc : RcOk C.P C.G rc)
    {rd : Option Nat} {F : Fence} (hF : FR φ rd F) (hk : effD C.P o = true) {v : AV} (ha : actD C rc o (absorbH (b.getD j 0) (st j).fl (st j).hp) (st j).nx (st j).tm = some (v, (st (j + 1)).hp, (st (j + 1)).nx))
    (e3 : (st (j + 1)).fl = absorbF (b.getD j 0) (st j).fl) (hnm : ∀ id bl, ¬ Made C ops s0.nx st j id bl) (hp : putT (st j).tm s0.nt o.dst v = some (st (j + 1)).tm) (Q : Exit → Act → World → Prop) :
    o.wpIn F 0 C.P a w (fun a' w' => ∃ m' φ', Inv C ops st s0 φ0 w0 (fun i => L i ∨ i = j) m' φ' a' w' ∧ φ.le φ') Q := by
  obtain ⟨hmj, g1, g2⟩ := I.ahead ht tx ho hj R1 R2 hk
  have hjn : j < ops.size := by
    rcases Nat.lt_or_ge j ops.size with hh | hh
    · exact hh
    · rw [Array.getElem?_eq_none hh] at ho; cases ho
  rw [g1, g2, absorbH_eq] at ha
  have hmem : ∀ x ∈ (st j).fl.filter (fun x => Nat.testBit (b.getD j 0) x.1), L x.1 ∧ x.1 < j ∧ Made C ops s0.nx st x.1 x.2.1 x.2.2 ∧ FloatOk (st m).hp φ w w0.heap.size x.2.1 x.2.2 := by
    intro x hx
    rw [List.mem_filter] at hx
    have hL := R1 x.1 hx.2
    obtain ⟨h1, h2, h3⟩ := ht.fl_mem hf0 j (by omega) x.1 x.2.1 x.2.2 hx.1
    exact ⟨hL, h1, h2, I.fl x.1 x.2.1 x.2.2 hL h2 (h3 m hmj)⟩
  obtain ⟨r1, own1⟩ := absorbAll_sound (B := w0.heap.size) ((st j).fl.filter fun x => Nat.testBit (b.getD j 0) x.1) (st m).hp I.rel (fun x hx => (hmem x hx).2.2.2)
    (((ht.fl_nodup hf0 j (by omega)).filter _).imp_of_mem fun {x y} hx hy hne a c ha hc =>
      I.flI x.1 y.1 _ _ _ _ a c (hmem x hx).1 (hmem y hy).1 hne (hmem x hx).2.2.1 (hmem y hy).2.2.1 ha hc)
  have fr1 := I.fr.absorb (h' := absorbAll ((st j).fl.filter fun x => Nat.testBit (b.getD j 0) x.1) (st m).hp) (fun k hk => by
    rcases own1 k hk with h | ⟨x, hx, lc, hl, rfl⟩
    · exact .inl h
    · obtain ⟨l2, _, q1, _, _, q4, _⟩ := (hmem x hx).2.2.2
      rw [hl] at q1; cases q1
      exact .inr q4)
  obtain ⟨hnd, hdoes⟩ := actD_sound hE hN hrc (I.operands ht tx ho hj R1 R2) ha r1 I.gl
  refine Does.wp' hF (by rw [Oper.semAt_eq _ _ _ hnd]; exact hdoes) (fun cv φ' w' hv r2 f2 => ⟨j + 1, φ', ?_, r1.le f2⟩) Q
  have hle := r1.le f2
  refine { hm := by omega, eff_lt := ?_, m_eff := .inr ⟨j, o, rfl, .inr rfl, ho, hk⟩, rel := r2, fr := fr1.trans f2, nxle := Nat.le_trans I.nxle f2.nx, tmsz := ?_,
           tm := fun t => I.tm_next tx ho hj R2 hle hv hp t, fl := ?_, flD := ?_, flI := ?_, free := ?_, df := ?_, gl := I.gl.mono hle }
  · intro e q hL hq hke
    rcases hL with hL | rfl
    · have := I.eff_lt e q hL hq hke; omega
    · omega
  · rw [← I.tmsz]; cases o.dst <;> simp [Act.put]
  · intro i id bl hL hM hmi
    rcases hL with hL | rfl
    · have hkey : (m ≤ i ∨ (i, id, bl) ∈ (st m).fl) ∧ ∀ x ∈ (st j).fl.filter (fun x => Nat.testBit (b.getD j 0) x.1), x.1 ≠ i := by
        rcases hmi with h | h
        · exact ⟨.inl (by omega), fun x hx e => by have := (hmem x hx).2.1; omega⟩
        · rw [e3] at h
          obtain ⟨h1, h2⟩ := absorbF_mem _ _ _ h
          refine ⟨(ht.fl_mem hf0 j (by omega) i id bl h1).2.2 m hmj, fun x hx e => ?_⟩
          rw [List.mem_filter] at hx
          rw [e] at hx
          rw [hx.2] at h2; cases h2
      obtain ⟨l, ob, q1, q2, q3, q4, q5⟩ := I.fl i id bl hL hM hkey.1
      have hno : ¬ Owns (absorbAll ((st j).fl.filter fun x => Nat.testBit (b.getD j 0) x.1) (st m).hp) φ l.blk := fun hh => by
        rcases own1 l.blk hh with h | ⟨x, hx, lc, hl, e⟩
        · exact q5 h
        · exact I.flI x.1 i _ id _ bl lc l (hmem x hx).1 hL (hkey.2 x hx) (hmem x hx).2.2.1 hM hl q1 e
      have hlt : l.blk < w.heap.size := by
        rcases Nat.lt_or_ge l.blk w.heap.size with hh | hh
        · exact hh
        · rw [Array.getElem?_eq_none hh] at q2; cases q2
      exact ⟨l, ob, hle _ _ q1, by rw [f2.old _ hlt hno]; exact q2, q3.mono hle, q4, fun hh => hno (f2.own _ hh hlt)⟩
    · exact absurd hM (hnm _ _)
  · intro i id bl hL hM
    rcases hL with hL | rfl
    · obtain ⟨l, q1, q2⟩ := I.flD i id bl hL hM
      exact ⟨l, hle _ _ q1, Nat.lt_of_lt_of_le q2 f2.size⟩
    · exact absurd hM (hnm _ _)
  · intro i k id id' bl bl' l l' hL hL' hne hM hM' e1 e2
    rcases hL with hL | rfl
    · rcases hL' with hL' | rfl
      · obtain ⟨l1, q1, _⟩ := I.flD i id bl hL hM
        obtain ⟨l2, q2, _⟩ := I.flD k id' bl' hL' hM'
        have a1 := hle _ _ q1
        have a2 := hle _ _ q2
        rw [e1] at a1; cases a1
        rw [e2] at a2; cases a2
        exact I.flI i k id id' bl bl' l l' hL hL' hne hM hM' q1 q2
      · exact absurd hM' (hnm _ _)
    · exact absurd hM (hnm _ _)
  · intro i q hL hq hkq
    have hal := ht.al_lt h0 hq hkq
    rw [f2.ren _ (by have := I.nxle; omega)]
    exact I.free i q (fun hh => hL (.inl hh)) hq hkq
  · have := I.df.mono hle
    cases o.dst <;> exact this

/-! ### what is read at another time -/

theorem Trace.rs_keep (ht : Trace C rc ops b s0.nt s0.nx st) {r : Rec} {i : Nat} (hr : r ∈ (st i).rs) : ∀ k, i ≤ k → k ≤ ops.size → r ∈ (st k).rs := by
  intro k
  induction k with
  | zero => intro h _; have : i = 0 := by omega
            subst this; exact hr
  | succ k ih =>
    intro h hk
    rcases Nat.lt_or_ge k i with hlt | hge
    · have : i = k + 1 := by omega
      subst this; exact hr
    · have hm := ih hge (by omega)
      obtain ⟨w, v, _, hs, _⟩ := ht.step (i := k) (o := ops[k]) (by simp [show k < ops.size by omega])
      generalize hd : st (k + 1) = d' at hs
      cases hs with
      | quiet _ _ _ hk hq hp =>
        simp only
        cases reads C.P ops[k] with
        | true => exact List.mem_cons_of_mem _ hm
        | false => exact hm
      | _ => exact hm

theorem Trace.hs_step (ht : Trace C rc ops b s0.nt s0.nx st) {k : Nat} {o : Oper} (ho : ops[k]? = some o) :
    (effD C.P o = true ∧ (st (k + 1)).hs = ((st k).hp, k) :: (st k).hs) ∨ (effD C.P o = false ∧ (st (k + 1)).hs = (st k).hs ∧ (st (k + 1)).hp = (st k).hp) := by
  obtain ⟨w, v, _, hs, _⟩ := ht.step ho
  cases he : effD C.P o with
  | false =>
    obtain ⟨h1, _, h3⟩ := hs.keeps he
    exact .inr ⟨rfl, h3, h1⟩
  | true =>
    left
    refine ⟨rfl, ?_⟩
    generalize hd : st (k + 1) = d' at hs
    cases hs with
    | idle _ _ hk => rw [effD_quiet hk] at he; cases he
    | quiet _ _ _ hk => rw [effD_quiet hk] at he; cases he
    | noAlloc _ _ hk => rw [effD_alloc hk] at he; cases he
    | alloc _ _ _ _ hk => rw [effD_alloc hk] at he; cases he
    | noEff => rfl
    | eff => rfl

theorem Trace.rec_at (ht : Trace C rc ops b s0.nt s0.nx st) {r : Rec} (hr : recOk C b r none (st ops.size).hp (st ops.size).hs = true) : ∀ n k, k + n = ops.size →
    ∃ next, recOk C b r next (st k).hp (st k).hs = true ∧ ∀ e, next = some e → k ≤ e ∧ ∃ o, ops[e]? = some o ∧ effD C.P o = true := by
  intro n
  induction n with
  | zero => intro k hk; have : k = ops.size := by omega
            subst this; exact ⟨none, hr, fun e h => by cases h⟩
  | succ n ih =>
    intro k hk
    obtain ⟨next, h1, h2⟩ := ih (k + 1) (by omega)
    have ho : ops[k]? = some ops[k] := by simp [show k < ops.size by omega]
    rcases ht.hs_step ho with ⟨he, hh⟩ | ⟨he, hh, hp⟩
    · rw [hh] at h1
      simp only [recOk, Bool.and_eq_true] at h1
      exact ⟨some k, h1.2, fun e he' => by cases he'; exact ⟨Nat.le_refl _, _, ho, he⟩⟩
    · rw [hh, hp] at h1
      exact ⟨next, h1, fun e he' => by obtain ⟨a1, a2⟩ := h2 e he'; exact ⟨by omega, a2⟩⟩

theorem chk_word {r : Rec} {prev next : Option Nat} {h : T AB} (hc : chk C b r prev next h = true) (hp : ∀ e, prev = some e → Nat.testBit (b.getD e 0) r.i = false) (hn : ∀ e, next = some e → Nat.testBit (b.getD r.i 0) e = false) :
    qop C.P C.G h r.tm r.o = some r.v := by
  unfold chk at hc
  simp only [Bool.or_eq_true] at hc
  rcases hc with (hc | hc) | hc
  · split at hc
    · rename_i e
      rw [hp e rfl] at hc; cases hc
    · cases hc
  · split at hc
    · rename_i e
      rw [hn e rfl] at hc; cases hc
    · cases hc
  · split at hc
    · rename_i u hu
      rw [hu, AV.beq_eq _ _ hc]
    · cases hc

/-- A reading operation says the same at each state of memory at which it may stand. -/
theorem Inv.read (I : Inv C ops st s0 φ0 w0 L m φ a w) (ht : Trace C rc ops b s0.nt s0.nx st) (hs0 : (st 0).hs = []) {tm : T AV} {v : AV} (hr : recOk C b { i := j, o, tm, v } none (st ops.size).hp (st ops.size).hs = true)
    (R1 : ∀ k, Nat.testBit (b.getD j 0) k = true → L k) (R2 : ∀ k, L k → Nat.testBit (b.getD k 0) j = false) : qop C.P C.G (st m).hp tm o = some v := by
  obtain ⟨next, h1, h2⟩ := ht.rec_at hr (ops.size - m) m (by have := I.hm; omega)
  have hnext : ∀ e, next = some e → Nat.testBit (b.getD j 0) e = false := by
    intro e he
    obtain ⟨a1, o', a2, a3⟩ := h2 e he
    cases hb : Nat.testBit (b.getD j 0) e with
    | false => rfl
    | true =>
      have := I.eff_lt e o' (R1 e hb) a2 a3
      omega
  have hchk : ∃ prev, chk C b { i := j, o, tm, v } prev next (st m).hp = true ∧ ∀ e, prev = some e → Nat.testBit (b.getD e 0) j = false := by
    rcases I.m_eff with h | ⟨e, q, he, hL, hq, hke⟩
    · rw [h, hs0] at h1
      rw [h]
      exact ⟨none, h1, fun e he => by cases he⟩
    · rcases ht.hs_step hq with ⟨_, hh⟩ | ⟨hh, _⟩
      · rw [he, hh] at h1
        simp only [recOk, Bool.and_eq_true] at h1
        rw [he]
        exact ⟨some e, h1.1, fun e' he' => by cases he'; exact R2 e hL⟩
      · rw [hke] at hh; cases hh
  obtain ⟨prev, h3, h4⟩ := hchk
  exact chk_word h3 h4 hnext

end

end Go.Abs

namespace Go.Abs

section
variable {C : Cfg} {rc : RC} {ops : Array Oper} {b : Array Nat} {st : Nat → Ds} {s0 : Fs} {φ0 : Ren} {w0 : World}

theorem not_made_of_fl {i : Nat} (he : (st (i + 1)).fl = (st i).fl) (id : Nat) (bl : AB) : ¬ Made C ops s0.nx st i id bl := by
  rintro ⟨_, _, _, _, e⟩
  rw [he] at e
  have := congrArg List.length e
  simp at this

/-- One operation that may come up. -/
theorem Inv.step {L : Nat → Prop} {m : Nat} {φ : Ren} {a : Act} {w : World} {j : Nat} {o : Oper} (I : Inv C ops st s0 φ0 w0 L m φ a w) (ht : Trace C rc ops b s0.nt s0.nx st) (hf0 : (st 0).fl = []) (h0 : (st 0).al = 0) (hs0 : (st 0).hs = [])
    (tx : Txt C ops b) (hrec : ∀ r ∈ (st ops.size).rs, recOk C b r none (st ops.size).hp (st ops.size).hs = true) (ho : ops[j]? = some o) (hj : ¬ L j)
    (R1 : ∀ k, Nat.testBit (b.getD j 0) k = true → L k) (R2 : ∀ k, L k → Nat.testBit (b.getD k 0) j = false) (hE : ExtOk C) (hN : NamesOk C.P) (hrc : RcOk C.P C.G rc)
    {rd : Option Nat} {F : Fence} (hF : FR φ rd F) (Q : Exit → Act → World → Prop) :
    wpOpIn F 0 C.P ops Q j (fun a' w' => ∃ m' φ', Inv C ops st s0 φ0 w0 (fun i => L i ∨ i = j) m' φ' a' w' ∧ φ.le φ') a w := by
  have hjn : j < ops.size := by
    rcases Nat.lt_or_ge j ops.size with hh | hh
    · exact hh
    · rw [Array.getElem?_eq_none hh] at ho; cases ho
  obtain ⟨wv, v, hw, hs, hp⟩ := ht.step ho
  have hwant := I.wanted ht tx ho hj R1 R2 hw
  have hO := I.operands ht tx ho hj R1 R2
  unfold wpOpIn
  simp only [ho, hwant]
  have hnd : kindOf C.P o ≠ .call → ∀ c, o.op ≠ .defer c := fun h c hh => h (by simp only [kindOf, hh])
  have nomade : (st (j + 1)).fl = (st j).fl → ∀ id bl, ¬ Made C ops s0.nx st j id bl := fun h => not_made_of_fl h
  have notAlloc : effD C.P o = true → ∀ id bl, ¬ Made C ops s0.nx st j id bl := by
    rintro he id bl ⟨o', ho', hk, _⟩
    rw [ho] at ho'; cases ho'
    rw [effD_alloc hk] at he; cases he
  generalize hd : st (j + 1) = d' at hs
  cases hs with
  | idle _ tm hk hp' =>
    rw [if_neg (by simp)]
    exact ⟨fun f _ => hF.fn f, m, φ, I.calm tx ho hj R2 (effD_quiet hk) (nomade (by rw [hd])) VR.undef hp, Ren.le_refl φ⟩
  | quiet _ tm _ hk hq hp' =>
    rw [if_pos rfl]
    have hqm : qop C.P C.G (cond (reads C.P o) (st m).hp .leaf) (st j).tm o = some v := by
      cases hr : reads C.P o with
      | false => rw [hr] at hq; exact hq
      | true =>
        rw [hr] at hd
        have hmem : ({ i := j, o, tm := (st j).tm, v } : Rec) ∈ (st (j + 1)).rs := by rw [hd]; simp
        exact I.read ht hs0 (hrec _ (ht.rs_keep hmem ops.size (by omega) (Nat.le_refl _))) R1 R2
    have hex : ∃ cv, (execOp a.eval o).run C.P w = .ok (.value cv) w ∧ VR φ v cv := by
      cases hr : reads C.P o with
      | false => rw [hr] at hqm; exact qop_sound I.rel.empty hO hqm
      | true => rw [hr] at hqm; exact qop_sound I.rel hO hqm
    obtain ⟨cv, h1, h2⟩ := hex
    refine ⟨fun f _ => hF.fn f, ?_⟩
    rw [Oper.semAt_eq _ _ _ (hnd (by rw [hk]; simp)), h1, Oper.uponIn_value]
    exact ⟨m, φ, I.calm tx ho hj R2 (effD_quiet hk) (nomade (by rw [hd])) h2 hp, Ren.le_refl φ⟩
  | noAlloc _ tm hk hp' =>
    rw [if_neg (by simp)]
    exact ⟨fun f _ => hF.fn f, m, φ, I.calm tx ho hj R2 (effD_alloc hk) (nomade (by rw [hd])) VR.undef hp, Ren.le_refl φ⟩
  | alloc _ tm bl mk hk hl hp' =>
    rw [if_pos rfl]
    have hM : Made C ops s0.nx st j (s0.nx + (st j).al) bl := ⟨o, ho, hk, rfl, by rw [hd]⟩
    obtain ⟨cv, w', h1, φ', I', hle⟩ := I.alloc ht h0 tx ho hj R2 hk hM hp (lop_sound hO hl)
    refine ⟨fun f _ => hF.fn f, ?_⟩
    rw [Oper.semAt_eq _ _ _ (hnd (by rw [hk]; simp)), h1, Oper.uponIn_value]
    exact ⟨m, φ', I', hle⟩
  | noEff _ tm hk hp' =>
    rw [if_neg (by simp)]
    exact ⟨fun f _ => hF.fn f, j + 1, φ, I.noEff ht hf0 tx ho hj R1 R2 hk (by rw [hd]) (by rw [hd]) (by rw [hd]) (notAlloc hk) VR.undef hp, Ren.le_refl φ⟩
  | eff _ tm _ h2 nx hk ha hp' =>
    rw [if_pos rfl]
    exact I.eff ht hf0 h0 tx ho hj R1 R2 hE hN hrc hF hk (by rw [ha, hd]) (by rw [hd]) (notAlloc hk) hp Q

end

end Go.Abs

namespace Go.Abs

def listedP (listed : Array Bool) (i : Nat) : Prop := listed.getD i false = true

theorem listedP_lt {listed : Array Bool} {i : Nat} (h : listedP listed i) : i < listed.size := by
  unfold listedP at h
  rcases Nat.lt_or_ge i listed.size with hh | hh
  · exact hh
  · rw [Array.getD_eq_getD_getElem?, Array.getElem?_eq_none hh] at h; cases h

theorem listedP_set {listed : Array Bool} {i : Nat} (hi : i < listed.size) (k : Nat) : listedP (listed.setIfInBounds i true) k ↔ (listedP listed k ∨ k = i) := by
  unfold listedP
  rw [Array.getD_eq_getD_getElem?, Array.getD_eq_getD_getElem?, Array.getElem?_setIfInBounds]
  by_cases h : i = k
  · subst h; simp [hi]
  · rw [if_neg h]
    constructor
    · exact .inl
    · rintro (h' | h')
      · exact h'
      · exact absurd h'.symm h

theorem getD_true {listed : Array Bool} {i : Nat} (hi : i < listed.size) : listed.getD i true = listed.getD i false := by
  rw [Array.getD_eq_getD_getElem?, Array.getD_eq_getD_getElem?, Array.getElem?_eq_getElem hi]; rfl

def unlisted (ops : Array Oper) (listed : Array Bool) : Nat := ((List.range ops.size).filter fun i => !listed.getD i false).length

theorem filter_lt {l : List Nat} {p q : Nat → Bool} {i : Nat} (hi : i ∈ l) (hp : p i = true) (hq : q i = false) (hle : ∀ k, q k = true → p k = true) : (l.filter q).length < (l.filter p).length := by
  induction l with
  | nil => cases hi
  | cons x l ih =>
    have hmono : (l.filter q).length ≤ (l.filter p).length := by
      clear ih hi
      induction l with
      | nil => exact Nat.le_refl _
      | cons y l ih2 =>
        cases hqy : q y with
        | true => rw [List.filter_cons_of_pos hqy, List.filter_cons_of_pos (hle y hqy)]; simp; exact ih2
        | false =>
          rw [List.filter_cons_of_neg (by rw [hqy]; simp)]
          cases hpy : p y with
          | true => rw [List.filter_cons_of_pos hpy]; simp; omega
          | false => rw [List.filter_cons_of_neg (by rw [hpy]; simp)]; exact ih2
    rcases List.mem_cons.1 hi with rfl | hi
    · rw [List.filter_cons_of_pos hp, List.filter_cons_of_neg (by rw [hq]; simp)]
      simp; omega
    · have := ih hi
      cases hqx : q x with
      | true => rw [List.filter_cons_of_pos hqx, List.filter_cons_of_pos (hle x hqx)]; simp; exact this
      | false =>
        rw [List.filter_cons_of_neg (by rw [hqx]; simp)]
        cases hpx : p x with
        | true => rw [List.filter_cons_of_pos hpx]; simp; omega
        | false => rw [List.filter_cons_of_neg (by rw [hpx]; simp)]; exact this

theorem mem_ready {ops : Array Oper} {listed : Array Bool} (hsz : listed.size = ops.size) {i : Nat} (h : i ∈ Region.ready .any ops listed) :
    i < ops.size ∧ ¬ listedP listed i ∧ ∃ o, ops[i]? = some o ∧ ∀ e ∈ o.after, Region.binds .any e = true → listedP listed e.on := by
  unfold Region.ready at h
  rw [List.mem_filter, List.mem_range] at h
  obtain ⟨h1, h2⟩ := h
  rw [Bool.and_eq_true] at h2
  obtain ⟨h2, h3⟩ := h2
  refine ⟨h1, fun hl => ?_, ops[i], by simp [h1], fun e he hb => ?_⟩
  · rw [getD_true (by omega)] at h2
    unfold listedP at hl
    rw [hl] at h2; cases h2
  · have ho : ops[i]? = some ops[i] := by simp [h1]
    rw [ho] at h3
    simp only [Option.map_some, Option.getD_some] at h3
    have h4 := (Array.all_eq_true_iff_forall_mem.1 h3) e he
    rw [hb] at h4
    simpa [listedP] using h4

theorem ready_nil {C : Cfg} {ops : Array Oper} {b : Array Nat} (tx : Txt C ops b) {listed : Array Bool} (hsz : listed.size = ops.size) (h : Region.ready .any ops listed = []) : ∀ i, i < ops.size → listedP listed i := by
  intro i
  induction i using Nat.strongRecOn with
  | _ i ih =>
    intro hi
    apply Classical.byContradiction
    intro hn
    have : i ∈ Region.ready .any ops listed := by
      unfold Region.ready
      rw [List.mem_filter, List.mem_range]
      refine ⟨hi, ?_⟩
      rw [Bool.and_eq_true]
      refine ⟨?_, ?_⟩
      · rw [getD_true (by omega)]
        unfold listedP at hn
        cases hh : listed.getD i false with
        | true => exact absurd hh hn
        | false => rfl
      · have ho : ops[i]? = some ops[i] := by simp [hi]
        rw [ho]
        simp only [Option.map_some, Option.getD_some]
        rw [Array.all_eq_true_iff_forall_mem]
        intro e he
        cases hb : Region.binds .any e with
        | false => rfl
        | true =>
          have hlt := tx.back i _ e ho he hb
          have := ih e.on hlt (by omega)
          simpa [listedP] using this
    rw [h] at this; cases this

section
variable {C : Cfg} {rc : RC} {ops : Array Oper} {st : Nat → Ds} {s0 : Fs} {φ0 : Ren} {w0 : World}

theorem wpAny_sound (ht : Trace C rc ops (Region.before ops) s0.nt s0.nx st) (hf0 : (st 0).fl = []) (h0 : (st 0).al = 0) (hs0 : (st 0).hs = [])
    (tx : Txt C ops (Region.before ops)) (hrec : ∀ r ∈ (st ops.size).rs, recOk C (Region.before ops) r none (st ops.size).hp (st ops.size).hs = true) (hE : ExtOk C) (hN : NamesOk C.P) (hrc : RcOk C.P C.G rc)
    {rd : Option Nat} {F : Fence} {Q : Exit → Act → World → Prop}
    (hQ : ∀ L m φ a w, (∀ i, i < ops.size → L i) → Inv C ops st s0 φ0 w0 L m φ a w → Q .normal a w) :
    ∀ (fuel : Nat) (listed : Array Bool) (m : Nat) (φ : Ren) (a : Act) (w : World), listed.size = ops.size → Closed ops (listedP listed) → unlisted ops listed ≤ fuel → FR φ rd F →
      Inv C ops st s0 φ0 w0 (listedP listed) m φ a w → wpAnyIn F 0 C.P .any ops Q fuel listed a w := by
  intro fuel
  have fin : ∀ (listed : Array Bool) (m : Nat) (φ : Ren) (a : Act) (w : World), listed.size = ops.size → Inv C ops st s0 φ0 w0 (listedP listed) m φ a w → Region.ready .any ops listed = [] → Q .normal a w :=
    fun listed m φ a w hsz I hr => hQ _ m φ a w (ready_nil tx hsz hr) I
  induction fuel with
  | zero =>
    intro listed m φ a w hsz hcl hun hF I
    have hr : Region.ready .any ops listed = [] := by
      cases hh : Region.ready .any ops listed with
      | nil => rfl
      | cons i l =>
        obtain ⟨h1, h2, _⟩ := mem_ready hsz (i := i) (by rw [hh]; simp)
        have hz : (List.range ops.size).filter (fun i => !listed.getD i false) = [] := List.eq_nil_of_length_eq_zero (by unfold unlisted at hun; omega)
        have : i ∈ (List.range ops.size).filter (fun i => !listed.getD i false) := by
          rw [List.mem_filter, List.mem_range]
          refine ⟨h1, ?_⟩
          unfold listedP at h2
          cases hb : listed.getD i false with
          | true => exact absurd hb h2
          | false => rfl
        rw [hz] at this; cases this
    exact ⟨hr, fin listed m φ a w hsz I hr⟩
  | succ fuel ih =>
    intro listed m φ a w hsz hcl hun hF I
    refine ⟨fin listed m φ a w hsz I, fun i hi => ?_⟩
    obtain ⟨h1, h2, o, ho, h3⟩ := mem_ready hsz hi
    have R1 : ∀ k, Nat.testBit ((Region.before ops).getD i 0) k = true → listedP listed k := before_listed hcl i o ho h3
    have R2 : ∀ k, listedP listed k → Nat.testBit ((Region.before ops).getD k 0) i = false := by
      intro k hk
      have hkn : k < ops.size := hsz ▸ listedP_lt hk
      have hok : ops[k]? = some ops[k] := by simp [hkn]
      cases hb : Nat.testBit ((Region.before ops).getD k 0) i with
      | false => rfl
      | true => exact absurd (before_listed hcl k _ hok (fun e he hb => hcl k _ hk hok e he hb) i hb) h2
    refine wpOpIn_mono ?_ (I.step ht hf0 h0 hs0 tx hrec ho h2 R1 R2 hE hN hrc hF Q)
    rintro a' w' ⟨m', φ', I', hle⟩
    have hL : (fun k => listedP listed k ∨ k = i) = listedP (listed.setIfInBounds i true) := by
      funext k
      exact propext (listedP_set (by omega) k).symm
    rw [hL] at I'
    refine ih (listed.setIfInBounds i true) m' φ' a' w' (by simpa using hsz) ?_ ?_ (hF.mono hle) I'
    · intro k q hk hq e he hb
      rw [listedP_set (by omega)] at hk ⊢
      left
      rcases hk with hk | rfl
      · exact hcl k q hk hq e he hb
      · rw [ho] at hq; cases hq; exact h3 e he hb
    · have := filter_lt (l := List.range ops.size) (p := fun k => !listed.getD k false) (q := fun k => !(listed.setIfInBounds i true).getD k false) (i := i) (by simpa using h1) (by
          unfold listedP at h2
          cases hb : listed.getD i false with
          | true => exact absurd hb h2
          | false => simp [hb]) (by
          have := (listedP_set (listed := listed) (i := i) (by omega) i).2 (.inr rfl)
          unfold listedP at this
          simp only [this]; rfl) (fun k hk => by
          cases hb : listed.getD k false with
          | false => rfl
          | true =>
            have := (listedP_set (listed := listed) (i := i) (by omega) k).2 (.inl hb)
            unfold listedP at this
            simp only [this] at hk; cases hk)
      unfold unlisted at hun ⊢
      omega

end

end Go.Abs

namespace Go.Abs

theorem drawOk_sound {C : Cfg} (hmix : C.P.follows .mixedOrders = true) (hE : ExtOk C) (hN : NamesOk C.P) {rc : RC} (hrc : RcOk C.P C.G rc) : DrawOk C rc := by
  intro id ops s s' φ a w rd F hd hs hF
  unfold regionDrawA at hd
  split at hd
  · cases hd
  · rename_i hok
    split at hd
    · cases hd
    · rename_i d hdraw
      split at hd
      · cases hd
      · rename_i hrs
        cases hd
        have tx := drawOk_txt hok
        obtain ⟨st, e0, en, htr⟩ := drawA_trace (C := C) (rc := rc) ops.toList 0 _ _ hdraw
        simp only [Nat.zero_add] at en htr
        have en' : st ops.size = d := by rw [← en]; congr 1
        have ht : Trace C rc ops (Region.before ops) s.nt s.nx st := fun i o ho => htr i o (by rw [Array.getElem?_toList]; exact ho)
        have hrec : ∀ r ∈ (st ops.size).rs, recOk C (Region.before ops) r none (st ops.size).hp (st ops.size).hs = true := by
          rw [en']
          exact List.all_eq_true.1 hrs
        obtain ⟨w1, hw1⟩ : ∃ w1 : World, w1 = { w with drawn := w.drawn + 1 } := ⟨_, rfl⟩
        have hw1h : w1.heap = w.heap := by rw [hw1]
        refine wpIn_region_any hmix ?_
        rw [← hw1]
        have hnone : ∀ i, ¬ listedP (Array.replicate ops.size false) i := by
          intro i h
          unfold listedP at h
          rw [Array.getD_eq_getD_getElem?, Array.getElem?_replicate] at h
          split at h <;> cases h
        have I0 : Inv C ops st s φ w (listedP (Array.replicate ops.size false)) 0 φ a w1 := {
          hm := Nat.zero_le _
          eff_lt := fun e o h => absurd h (hnone e)
          m_eff := .inl rfl
          rel := by rw [e0]; exact ⟨fun i hi => hs.rel.dom i (by simp at hi; omega), (hs.rel.drawn hw1h).blk, (hs.rel.drawn hw1h).inj⟩
          fr := by
            rw [e0]
            exact ⟨fun _ _ => rfl, (by simp), (by rw [hw1h]; exact Nat.le_refl _), (fun k _ _ => by rw [hw1h]), (fun k hk _ => hk), (by rw [hw1]), (by rw [hw1]), (by rw [hw1])⟩
          nxle := by rw [e0]; exact Nat.le_refl _
          tmsz := hs.tr.1
          tm := fun t => ⟨0, Nat.zero_le _, .inl rfl, fun i o h => absurd h (hnone i), fun v hv => by rw [e0] at hv; exact hs.tr.2 t v hv⟩
          fl := fun i id bl h => absurd h (hnone i)
          flD := fun i id bl h => absurd h (hnone i)
          flI := fun i j id id' bl bl' l l' h => absurd h (hnone i)
          free := fun i o _ _ _ => hs.rel.dom _ (by omega)
          df := hs.df
          gl := hs.gl }
        refine wpAny_sound (Q := Qx C.G s.hp s.nx φ w .normal { s with tm := d.tm, hp := absorbAll d.fl d.hp, nx := d.nx }) ht (by rw [e0]) (by rw [e0]) (by rw [e0]) tx hrec hE hN hrc ?_ ops.size _ 0 φ a w1 (by simp) ?_ ?_ hF I0
        · intro L m φ' a' w' hall I
          have hno : ∀ i o, m ≤ i → i < ops.size → ops[i]? = some o → effD C.P o = false := by
            intro i o h1 h2 ho
            cases he : effD C.P o with
            | false => rfl
            | true => have := I.eff_lt i o (hall i h2) ho he; omega
          obtain ⟨g1, g2⟩ := ht.hp_keep ops.size I.hm (Nat.le_refl _) hno
          rw [en'] at g1 g2
          have hmem : ∀ x ∈ d.fl, L x.1 ∧ Made C ops s.nx st x.1 x.2.1 x.2.2 ∧ FloatOk (st m).hp φ' w' w.heap.size x.2.1 x.2.2 := by
            intro x hx
            have hx' : (x.1, x.2.1, x.2.2) ∈ (st ops.size).fl := by rw [en']; exact hx
            obtain ⟨h1, h2, h3⟩ := ht.fl_mem (by rw [e0]) ops.size (Nat.le_refl _) x.1 x.2.1 x.2.2 hx'
            exact ⟨hall x.1 h1, h2, I.fl x.1 x.2.1 x.2.2 (hall x.1 h1) h2 (h3 m I.hm)⟩
          have hnd := ht.fl_nodup (by rw [e0]) ops.size (Nat.le_refl _)
          rw [en'] at hnd
          obtain ⟨r1, own1⟩ := absorbAll_sound (B := w.heap.size) d.fl (st m).hp I.rel (fun x hx => (hmem x hx).2.2)
            (hnd.imp_of_mem fun {x y} hx hy hne a c ha hc => I.flI x.1 y.1 _ _ _ _ a c (hmem x hx).1 (hmem y hy).1 hne (hmem x hx).2.1 (hmem y hy).2.1 ha hc)
          have fr1 := I.fr.absorb (h' := absorbAll d.fl (st m).hp) (fun k hk => by
            rcases own1 k hk with h | ⟨x, hx, lc, hl, rfl⟩
            · exact .inl h
            · obtain ⟨l2, _, q1, _, _, q4, _⟩ := (hmem x hx).2.2
              rw [hl] at q1; cases q1
              exact .inr q4)
          refine ⟨rfl, φ', ⟨?_, ⟨I.tmsz, fun t v hv => ?_⟩, I.df, I.gl⟩, ?_⟩
          · simp only; rw [g1, g2]; exact r1
          · obtain ⟨k, hk1, hk2, hk3, hk4⟩ := I.tm t
            refine hk4 v ?_
            rw [← ht.tm_keep ops.size hk1 (Nat.le_refl _) (fun i o h1 h2 ho hd => by have := hk3 i o (hall i h2) ho hd; omega), en']
            exact hv
          · simp only; rw [g1, g2]; exact fr1
        · intro i o h
          exact absurd h (hnone i)
        · unfold unlisted
          exact Nat.le_trans (List.length_filter_le _ _) (by simp)

/-- The evaluator is right. -/
theorem run_sound {C : Cfg} (hmix : C.P.follows .mixedOrders = true) (hE : ExtOk C) (hN : NamesOk C.P) (n : Nat) {f : FuncId} {args : List AV} {h : T AB} {nx : Nat} {v : AV} {h' : T AB} {nx' : Nat}
    (hr : run C n (.call f args h nx) = some (.call v h' nx')) {φ : Ren} {w : World} {cargs : Array Value} (hv : VRs φ args cargs.toList) (r : Rel h nx φ w) (gl : GL C.G φ) :
    CallsIn Fence.wide 0 C.P f cargs w (RR h nx φ w v h' nx') := by
  have hk := (run_ok hE hN (fun rc hrc => drawOk_sound hmix hE hN hrc) n).1
  refine hk f args h nx v h' nx' φ w cargs ?_ hv r gl
  simp only [toRC, hr]

end Go.Abs
