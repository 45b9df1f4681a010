/-
  THE EVALUATOR: its control is what the model does. (The conditions stand in the row and the card that are given.) Written by an AI agent for this claim.
-/
import Derived.Test.YtbbpbklbmoeocaaGreatDoorEvC
import Derived.RangeFuncIn
import Derived.DefersIn
import Derived.RangeFuncCalls
import Derived.RangeFuncLeaves
set_option linter.unusedVariables false
set_option linter.unusedSimpArgs false
namespace Go.Abs

/-! ### an activation -/

def DR (φ : Ren) : AD → Deferred → Prop
  | .call f args, d => ∃ (da cap : Array Value), d = { target := .fn (.func f) cap, args := da } ∧ VRs φ args (da ++ cap).toList
  | .mark r, d => ∃ l, φ r = some l ∧ d = { target := .collected l.blk, args := #[] }

def DRs (φ : Ren) : List AD → List Deferred → Prop
  | [], [] => True
  | x :: xs, d :: ds => DR φ x d ∧ DRs φ xs ds
  | _, _ => False

/-- The globals' blocks. -/
def GL (G : Nat) (φ : Ren) : Prop := ∀ g, g < G → ∃ sz, φ g = some ⟨g, 0, sz⟩

structure SR (G : Nat) (φ : Ren) (s : Fs) (a : Act) (w : World) : Prop where
  rel : Rel s.hp s.nx φ w
  tr : TR φ s.tm s.nt a.tmps
  df : DRs φ s.df a.defers
  gl : GL G φ

theorem GL.mono {G : Nat} {φ ψ : Ren} (hle : φ.le ψ) (hg : GL G φ) : GL G ψ := fun g h => let ⟨sz, e⟩ := hg g h; ⟨sz, hle _ _ e⟩
theorem DR.mono {φ ψ : Ren} (hle : φ.le ψ) : ∀ {x : AD} {d : Deferred}, DR φ x d → DR ψ x d
  | .call _ _, _, ⟨da, cap, e, hv⟩ => ⟨da, cap, e, hv.mono hle⟩
  | .mark _, _, ⟨l, e, h⟩ => ⟨l, hle _ _ e, h⟩
theorem DRs.mono {φ ψ : Ren} (hle : φ.le ψ) : ∀ {xs : List AD} {ds : List Deferred}, DRs φ xs ds → DRs ψ xs ds
  | [], [], _ => trivial
  | _ :: _, _ :: _, ⟨h1, h2⟩ => ⟨h1.mono hle, h2.mono hle⟩
  | [], _ :: _, h => h.elim
  | _ :: _, [], h => h.elim

/-- What a call comes to. -/
def RR (h : T AB) (nx : Nat) (φ : Ren) (w : World) (v : AV) (h' : T AB) (nx' : Nat) : Ending → World → Prop :=
  fun e w' => ∃ cv φ', e = .returned cv ∧ VR φ' v cv ∧ Rel h' nx' φ' w' ∧ Fr h nx φ w h' nx' φ' w'

def RcOk (P : Program) (G : Nat) (rc : RC) : Prop :=
  ∀ (f : FuncId) (args : List AV) (h : T AB) (nx : Nat) (v : AV) (h' : T AB) (nx' : Nat) (φ : Ren) (w : World) (cargs : Array Value), rc f args h nx = some (v, h', nx') → VRs φ args cargs.toList → Rel h nx φ w → GL G φ →
    CallsIn Fence.wide 0 P f cargs w (RR h nx φ w v h' nx')

def ExtOk (C : Cfg) : Prop :=
  ∀ (f : FuncId) (fn : Func) (k : EK), C.P.funcs[f]? = some fn → fn.body = none → C.X f = some k → ∀ (h : T AB) (nx : Nat) (φ : Ren) (w : World) (args : List AV) (cargs : Array Value) (v : AV) (h' : T AB),
    extA k h args = some (v, h') → VRs φ args cargs.toList → Rel h nx φ w → ETurns C.P h nx φ w (callFunc f cargs) v h' nx

def NamesOk (P : Program) : Prop := ∀ (f : FuncId) (fn : Func), P.funcs[f]? = some fn → (fn.name == "runtime.NumGoroutine") = false

/-- What an operation does, in either way. -/
def Does (P : Program) (h : T AB) (nx : Nat) (φ : Ren) (w : World) (s : Sem Next) (v : AV) (h' : T AB) (nx' : Nat) : Prop :=
  ETurns P h nx φ w s v h' nx' ∨ (∃ f cargs, s.run P w = .ok (.enter f cargs) w ∧ CallsIn Fence.wide 0 P f cargs w (RR h nx φ w v h' nx')) ∨
  (∃ l fn tmps asg body, s.run P w = .ok (.round l fn tmps asg body) w ∧ RoundIn Fence.wide 0 P l fn tmps asg body w (RR h nx φ w v h' nx'))

theorem funcA_sound {C : Cfg} {rc : RC} (hE : ExtOk C) (hN : NamesOk C.P) (hrc : RcOk C.P C.G rc) {f : FuncId} {args : List AV} {h : T AB} {nx : Nat} {v : AV} {h' : T AB} {nx' : Nat} {φ : Ren} {w : World} {cargs : Array Value}
    (hf : funcA C rc f args h nx = some (v, h', nx')) (hv : VRs φ args cargs.toList) (r : Rel h nx φ w) (gl : GL C.G φ) : Does C.P h nx φ w (callFunc f cargs) v h' nx' := by
  unfold funcA at hf
  split at hf
  · rename_i fn hfn
    split at hf
    · rename_i c hb
      refine .inr (.inl ⟨f, cargs, ?_, hrc f args h nx v h' nx' φ w cargs hf hv r gl⟩)
      simp only [callFunc, Sem.run_bind, run_program, Result.andThen_ok, hfn, hN f fn hfn, hb, Option.isNone_some, Bool.false_eq_true, if_false, Sem.run_pure]
    · rename_i hb
      split at hf
      · rename_i k hk
        split at hf
        · rename_i v1 h1 hx
          cases hf
          exact .inl (hE f fn k hfn hb hk h nx φ w args cargs v h' hx hv r)
        · cases hf
      · cases hf
  · cases hf

/-! ### operands -/

theorem SR.opnd {G : Nat} {φ : Ren} {s : Fs} {a : Act} {w : World} (hs : SR G φ s a w) (x : Operand) {v : AV} (hv : opnd G s.tm x = some v) : VR φ v (a.eval x) := by
  cases x with
  | tmp t =>
    obtain ⟨c, h1, h2⟩ := hs.tr.2 t v hv
    simp only [Act.eval]
    rw [Array.getD_eq_getD_getElem?, h1]
    exact h2
  | const c => exact ofVal_sound c v hv
  | global g =>
    simp only [Abs.opnd] at hv
    obtain ⟨hb, hv⟩ := cond_none hv
    cases hv
    obtain ⟨sz, e⟩ := hs.gl g (by simpa [Nat.blt_eq] using hb)
    have := VR.ptr (φ := φ) g 0 _ e
    simpa [Act.eval] using this
  | func f =>
    simp only [Abs.opnd] at hv
    cases hv
    exact .func f [] [] _ _ rfl rfl (fun i v c h => by simp at h) (fun i v c h => by simp at h)

theorem SR.OR {G : Nat} {φ : Ren} {s : Fs} {a : Act} {w : World} (hs : SR G φ s a w) (xs : Array Operand) : OR φ G s.tm a.eval xs := fun x _ _ hv => hs.opnd x hv

theorem TR.set {φ : Ren} {tm : T AV} {n : Nat} {tmps : Array Value} (ht : TR φ tm n tmps) {t : Nat} (hlt : t < n) {v : AV} {c : Value} (hv : VR φ v c) : TR φ (tm.set t v) n (tmps.setIfInBounds t c) := by
  refine ⟨by simp [ht.1], fun k u hu => ?_⟩
  rw [T.get_set] at hu
  by_cases hk : k = t
  · subst hk
    simp at hu; subst hu
    exact ⟨c, by simp [ht.1, hlt], hv⟩
  · rw [if_neg hk] at hu
    obtain ⟨c', h1, h2⟩ := ht.2 k u hu
    exact ⟨c', by rw [Array.getElem?_setIfInBounds_ne (by omega)]; exact h1, h2⟩

/-- What is asked of the next operations. -/
def Nx (G : Nat) (h : T AB) (nx : Nat) (φ : Ren) (w : World) (s' : Fs) : Act → World → Prop :=
  fun a' w' => ∃ φ', SR G φ' s' a' w' ∧ Fr h nx φ w s'.hp s'.nx φ' w'

theorem putD_inv {s s' : Fs} {d : Option Tmp} {v : AV} (hp : putD s d v = some s') : s'.hp = s.hp ∧ s'.nx = s.nx ∧ s'.df = s.df ∧ s'.nt = s.nt ∧ ((d = none ∧ s'.tm = s.tm) ∨ ∃ t, d = some t ∧ t < s.nt ∧ s'.tm = s.tm.set t v) := by
  unfold putD at hp
  split at hp
  · cases hp; exact ⟨rfl, rfl, rfl, rfl, .inl ⟨rfl, rfl⟩⟩
  · rename_i t
    obtain ⟨hb, hp⟩ := cond_none hp
    cases hp
    exact ⟨rfl, rfl, rfl, rfl, .inr ⟨t, rfl, by simpa [Nat.blt_eq] using hb, rfl⟩⟩

/-- A value is put. -/
theorem SR.put {G : Nat} {φ φ' : Ren} {s s' : Fs} {a : Act} {w w' : World} (hs : SR G φ s a w) {h' : T AB} {nx' : Nat} {d : Option Tmp} {v : AV} {cv : Value} (hp : putD { s with hp := h', nx := nx' } d v = some s')
    (hv : VR φ' v cv) (r : Rel h' nx' φ' w') (f : Fr s.hp s.nx φ w h' nx' φ' w') : Nx G s.hp s.nx φ w s' (a.put d cv) w' := by
  have hle := hs.rel.le f
  obtain ⟨e1, e2, e3, e4, e5⟩ := putD_inv hp
  refine ⟨φ', ⟨by rw [e1, e2]; exact r, ?_, ?_, hs.gl.mono hle⟩, by rw [e1, e2]; exact f⟩
  · rw [e4]
    rcases e5 with ⟨rfl, e⟩ | ⟨t, rfl, hlt, e⟩
    · rw [e]; exact hs.tr.mono hle
    · rw [e]; exact (hs.tr.mono hle).set hlt hv
  · rw [e3]
    cases d <;> exact hs.df.mono hle

/-- The fence in which code is walked. -/
inductive FR (φ : Ren) : Option Nat → Fence → Prop where
  | out : FR φ none Fence.wide
  | rnd (l : Nat) (lc : Loc) (h : φ l = some lc) : FR φ (.some l) (Fence.wide.inRound lc.blk)

theorem FR.mono {φ ψ : Ren} (hle : φ.le ψ) {rd : Option Nat} {F : Fence} (hf : FR φ rd F) : FR ψ rd F := by
  cases hf with
  | out => exact .out
  | rnd l lc h => exact .rnd l lc (hle _ _ h)
theorem FR.fn {φ : Ren} {rd : Option Nat} {F : Fence} (hf : FR φ rd F) (f : FuncId) : F.fn f := by cases hf <;> trivial
theorem FR.depth {φ : Ren} {rd : Option Nat} {F : Fence} (hf : FR φ rd F) : F.depth = none := by cases hf <;> rfl
theorem FR.calls {φ : Ren} {rd : Option Nat} {F : Fence} (hf : FR φ rd F) {P : Program} {f : FuncId} {args : Array Value} {w : World} {R : Ending → World → Prop} (hc : CallsIn Fence.wide 0 P f args w R) : CallsIn F 0 P f args w R := by
  cases hf with
  | out => exact hc
  | rnd l lc h => exact CallsIn.inRound _ hc
theorem FR.rounds {φ : Ren} {rd : Option Nat} {F : Fence} (hf : FR φ rd F) {P : Program} {l : Nat} {f : FuncId} {tmps : Array Value} {asg body : Code} {w : World} {R : Ending → World → Prop} (hc : RoundIn Fence.wide 0 P l f tmps asg body w R) :
    RoundIn F 0 P l f tmps asg body w R := by
  cases hf with
  | out => exact hc
  | rnd l lc h => exact hc

theorem Does.wp {P : Program} {G : Nat} {φ : Ren} {s s' : Fs} {a : Act} {w : World} (hs : SR G φ s a w) {rd : Option Nat} {F : Fence} (hF : FR φ rd F) {o : Oper} {v : AV} {h' : T AB} {nx' : Nat}
    (hd : Does P s.hp s.nx φ w (o.semAt F.round a.eval) v h' nx') (hp : putD { s with hp := h', nx := nx' } o.dst v = some s') (Q : Exit → Act → World → Prop) :
    o.wpIn F 0 P a w (Nx G s.hp s.nx φ w s') Q := by
  refine ⟨fun f _ => hF.fn f, ?_⟩
  have hnd : F.depth.isSome = true → 1 ≤ 0 := fun hh => by rw [hF.depth] at hh; cases hh
  rcases hd with ⟨cv, w', φ', hr, hv, r, f⟩ | ⟨fc, cargs, hr, hc⟩ | ⟨l, fc, tmps, asg, body, hr, hc⟩
  · rcases hr with hr | ⟨hr, rfl⟩
    · rw [hr, Oper.uponIn_value]
      exact hs.put hp hv r f
    · rw [hr, Oper.uponIn_skip]
      exact hs.put hp hv r f
  · rw [hr, Oper.uponIn_enter]
    refine ⟨hnd, (hF.calls hc).mono fun e w' ⟨cv, φ', he, hv, r, f⟩ => ?_⟩
    subst he
    exact hs.put hp hv r f
  · rw [hr, Oper.uponIn_round]
    refine ⟨hnd, (hF.rounds hc).mono fun e w' ⟨cv, φ', he, hv, r, f⟩ => ?_⟩
    subst he
    exact hs.put hp hv r f

end Go.Abs

namespace Go.Abs

def AX.ex : AX → Exit
  | .normal => .normal
  | .exit id => .exit id
  | .ret => .ret

def Qx (G : Nat) (h : T AB) (nx : Nat) (φ : Ren) (w : World) (x : AX) (s' : Fs) : Exit → Act → World → Prop := fun e a' w' => e = x.ex ∧ Nx G h nx φ w s' a' w'

def CodeOk (P : Program) (G : Nat) (rr : RL) : Prop :=
  ∀ (c : Code) (rd : Option Nat) (cf : Nat) (s : Fs) (x : AX) (s' : Fs) (φ : Ren) (a : Act) (w : World) (F : Fence), rr c rd cf s = some (x, s') → SR G φ s a w → FR φ rd F →
    c.wpIn F 0 P (Qx G s.hp s.nx φ w x s') a w

section
variable {C : Cfg} {rc : RC} {rr : RL} {φ : Ren} {s s' : Fs} {a : Act} {w : World}

theorem wantedA_sound {G : Nat} {ops : Array Oper} {o : Oper} {b : Bool} (hs : SR G φ s a w) (hw : wantedA ops s.tm o = some b) : Region.wanted o (yielded ops a.tmps) = b := by
  unfold wantedA at hw
  unfold Region.wanted
  split at hw
  · rename_i hg; cases hw; rw [hg]
  · rename_i j want hg
    rw [hg]
    simp only
    split at hw
    · rename_i q hq
      split at hw
      · rename_i d hd
        split at hw
        · rename_i v hv
          cases hw
          obtain ⟨c, h1, h2⟩ := hs.tr.2 d _ hv
          obtain rfl := h2.bool_inv
          simp only [yielded, hq, Option.bind_some, hd, h1]
          cases v <;> cases want <;> rfl
        · rename_i v hnb hv
          cases hw
          obtain ⟨c, h1, h2⟩ := hs.tr.2 d _ hv
          simp only [yielded, hq, Option.bind_some, hd, h1]
          cases h2 <;> first | rfl | exact absurd rfl (hnb _)
        · cases hw
      · cases hw
    · cases hw

/-! ### a round -/

theorem loopBR_inv {al : ALoop} {l : Loc} {o : Obj} (hb : BR φ (.loop al) l o) : ∃ (cl : Loop), o = .loop cl ∧ cl.state = al.state ∧ cl.pending = al.pending ∧ TR φ al.tm al.ntm cl.tmps ∧ cl.params = al.params ∧ cl.assign = al.assign ∧
      cl.body = al.body ∧ ∃ l', φ al.defers = some l' ∧ cl.defers = l'.blk := hb

theorem run_getLoop {P : Program} {b : Nat} {cl : Loop} (hb : w.heap[b]? = some (.loop cl)) : (Instr.getLoop b).run P w = .ok cl w := by
  simp [Instr.getLoop, getObj, Sem.run, hb, Sem.run_bind, Result.andThen]

theorem run_setLoop {P : Program} {r : Nat} {o : Obj} {cl : Loop} (hr : w.heap[r]? = some (.loop cl)) :
    ∃ w', (setObj r o).run P w = .ok () w' ∧ w'.heap[r]? = some o ∧ (∀ k, k ≠ r → w'.heap[k]? = w.heap[k]?) ∧ w'.heap.size = w.heap.size ∧ w'.os = w.os ∧ w'.tape = w.tape ∧ w'.output = w.output := by
  have hlt : r < w.heap.size := by
    rcases Nat.lt_or_ge r w.heap.size with hh | hh
    · exact hh
    · simp [Array.getElem?_eq_none hh] at hr
  refine ⟨{ w with heap := w.heap.setIfInBounds r o }, ?_, by simp [hlt], fun k hk => by simp [Ne.symm hk], by simp, rfl, rfl, rfl⟩
  simp only [setObj, Sem.run, hr]

/-- The loop's record is turned: its state, its pending jump. -/
theorem Rel.loop {h : T AB} {nx : Nat} (r : Rel h nx φ w) {P : Program} {l : Nat} {al : ALoop} (hb : h.get l = some (.loop al)) {lc : Loc} (hl : φ l = some lc) (st : LoopState) (pd : Option Code) :
    ∃ cl w', (Instr.getLoop lc.blk).run P w = .ok cl w ∧ cl.state = al.state ∧ cl.pending = al.pending ∧ cl.params = al.params ∧ cl.assign = al.assign ∧ cl.body = al.body ∧ TR φ al.tm al.ntm cl.tmps ∧
      (setObj lc.blk (.loop { cl with state := st, pending := pd })).run P w = .ok () w' ∧
      Rel (h.set l (.loop { al with state := st, pending := pd })) nx φ w' ∧ Fr h nx φ w (h.set l (.loop { al with state := st, pending := pd })) nx φ w' := by
  obtain ⟨ob, ho, hbr⟩ := r.of_blk hb hl
  obtain ⟨cl, rfl, h1, h2, h3, h4, h5, h6, l', h7, h8⟩ := loopBR_inv hbr
  obtain ⟨w', t1, t2, t3, t4, t5, t6, t7⟩ := run_setLoop (P := P) (o := .loop { cl with state := st, pending := pd }) ho
  have hbr' : BR φ (.loop { al with state := st, pending := pd }) lc (.loop { cl with state := st, pending := pd }) := ⟨_, rfl, rfl, rfl, h3, h4, h5, h6, l', h7, h8⟩
  exact ⟨cl, w', run_getLoop ho, h1, h2, h4, h5, h6, h3, t1, r.turn hb hl hbr' t2 t3, Fr.turn hb hl t3 t4 t5 t6 t7⟩

theorem setParams_TR : ∀ (ts : List Tmp) (vs : List AV) (cvs : List Value) (tm : T AV) (n : Nat) (tmps : Array Value), TR φ tm n tmps → VRs φ vs cvs → (ts.all fun t => Nat.blt t n) = true →
    TR φ (setParams tm ts vs) n ((ts.zip cvs).foldl (fun tmps (t, a) => tmps.setIfInBounds t a) tmps) := by
  intro ts
  induction ts with
  | nil => intro vs cvs tm n tmps ht _ _; exact ht
  | cons t ts ih =>
    intro vs cvs tm n tmps ht hv hall
    cases vs with
    | nil => cases cvs with
      | nil => exact ht
      | cons c cvs => have := hv.1; simp at this
    | cons v vs => cases cvs with
      | nil => have := hv.1; simp at this
      | cons c cvs =>
        simp only [List.all_cons, Bool.and_eq_true] at hall
        simp only [setParams, List.zip_cons_cons, List.foldl_cons]
        exact ih vs cvs _ n _ (ht.set (by simpa [Nat.blt_eq] using hall.1) hv.head) hv.tail hall.2

theorem Nx.trans {G : Nat} {h h1 : T AB} {nx nx1 : Nat} {φ1 : Ren} {w1 : World} {s' : Fs} {a' : Act} {w' : World} (f : Fr h nx φ w h1 nx1 φ1 w1) (hn : Nx G h1 nx1 φ1 w1 s' a' w') : Nx G h nx φ w s' a' w' := by
  obtain ⟨φ', r, g⟩ := hn
  exact ⟨φ', r, f.trans g⟩


/-- yield, called. -/
theorem yield_does (hrr : CodeOk C.P C.G rr) (gl : GL C.G φ) {h : T AB} {nx : Nat} (r : Rel h nx φ w) {l : Nat} {lc : Loc} (hl : φ l = some lc) {al : ALoop} (hb : h.get l = some (.loop al)) (hst : al.state = .ready)
    {args : List AV} {cargs : Array Value} (hv : VRs φ args cargs.toList) (hlen : args.length = al.params.size) (hall : (al.params.toList.all fun t => Nat.blt t al.ntm) = true) {s1 : Fs}
    (h1 : rr al.assign (some l) al.fn { tm := setParams al.tm al.params.toList args, nt := al.ntm, df := [], hp := h, nx := nx } = some (.normal, s1))
    {al1 : ALoop} (hb1 : s1.hp.get l = some (.loop al1)) (hst1 : al1.state = .ready) {x : AX} {s2 : Fs}
    (h2 : rr al.body (some l) al.fn { s1 with hp := s1.hp.set l (.loop { al1 with state := .busy }) } = some (x, s2)) {al2 : ALoop} (hb2 : s2.hp.get l = some (.loop al2))
    {pd : Option Code} (hpd : (x = .normal ∧ pd = none) ∨ (x = .ret ∧ pd = some .ret) ∨ (∃ id, x = .exit id ∧ pd = some (.exit id))) :
    Does C.P h nx φ w (Instr.yield lc.blk cargs) (.bool pd.isNone) (s2.hp.set l (.loop { al2 with state := if pd.isNone then .ready else .done, pending := pd })) s2.nx := by
  obtain ⟨ob, ho, hbr⟩ := r.of_blk hb hl
  obtain ⟨cl, rfl, c1, c2, c3, c4, c5, c6, c7⟩ := loopBR_inv hbr
  have hsz : cargs.size = cl.params.size := by rw [c4, ← hlen]; have := hv.1; simp at this; omega
  refine .inr (.inr ⟨lc.blk, cl.fn, (cl.params.zip cargs).foldl (fun tmps (t, a) => tmps.setIfInBounds t a) cl.tmps, al.assign, al.body, ?_, ?_⟩)
  · simp only [Instr.yield, Sem.run_bind, run_getLoop ho, Result.andThen_ok]
    rw [if_neg (by simp [hsz])]
    rw [c5, c6]
    rfl
  · have htr : TR φ (setParams al.tm al.params.toList args) al.ntm ((cl.params.zip cargs).foldl (fun tmps (t, a) => tmps.setIfInBounds t a) cl.tmps) := by
      have := setParams_TR al.params.toList args cargs.toList al.tm al.ntm cl.tmps c3 hv hall
      rw [← Array.foldl_toList, Array.toList_zip, c4]
      exact this
    have hs0 : SR C.G φ { tm := setParams al.tm al.params.toList args, nt := al.ntm, df := [], hp := h, nx := nx } { tmps := (cl.params.zip cargs).foldl (fun tmps (t, a) => tmps.setIfInBounds t a) cl.tmps, defers := [] } w :=
      ⟨r, htr, trivial, gl⟩
    refine roundIn_of_wpIn trivial ?_
    refine wpIn_mono (hrr _ _ _ _ _ _ _ _ _ _ h1 hs0 (.rnd l lc hl)) ?_
    rintro e a1 w1 ⟨rfl, φ1, sr1, f1⟩
    simp only [AX.ex, Exit.then]
    have hl1 : φ1 l = some lc := (r.le f1) _ _ hl
    obtain ⟨cl1, w2, g1, g2, g3, g4, g5, g6, g7, g8, r2, f2⟩ := sr1.rel.loop (P := C.P) hb1 hl1 .busy al1.pending
    refine ⟨w2, ?_, ?_⟩
    · simp only [Instr.beginRound, Sem.run_bind, g1, Result.andThen_ok]
      rw [g3, ] at *
      rw [← g3] at g8
      simp only [g8, Result.andThen_ok, g2, hst1]
      rfl
    · have hs1 : SR C.G φ1 { s1 with hp := s1.hp.set l (.loop { al1 with state := .busy }) } a1 w2 := ⟨r2, sr1.tr, sr1.df, sr1.gl⟩
      refine wpIn_mono (hrr _ _ _ _ _ _ _ _ _ _ h2 hs1 (.rnd l lc hl1)) ?_
      rintro e a2 w3 ⟨rfl, φ2, sr2, f3⟩
      have hl2 : φ2 l = some lc := (r2.le f3) _ _ hl1
      obtain ⟨cl2, w4, k1, k2, k3, k4, k5, k6, k7, k8, r4, f4⟩ := sr2.rel.loop (P := C.P) hb2 hl2 (if pd.isNone then .ready else .done) pd
      have hend : (Instr.endRound lc.blk pd).run C.P w3 = .ok (.bool pd.isNone) w4 := by
        simp only [Instr.endRound, Sem.run_bind, k1, Result.andThen_ok, k8, Sem.run_pure]
      have hRR : RR h nx φ w (.bool pd.isNone) (s2.hp.set l (.loop { al2 with state := if pd.isNone then .ready else .done, pending := pd })) s2.nx (.returned (.bool pd.isNone)) w4 :=
        ⟨_, φ2, rfl, .bool _, r4, ((f1.trans f2).trans f3).trans f4⟩
      rcases hpd with ⟨rfl, rfl⟩ | ⟨rfl, rfl⟩ | ⟨id, rfl, rfl⟩
      · exact ⟨_, w4, hend, hRR⟩
      · exact ⟨_, w4, hend, hRR⟩
      · exact ⟨_, w4, hend, hRR⟩

end

end Go.Abs

namespace Go.Abs

section
variable {C : Cfg} {rc : RC} {rr : RL} {φ : Ren} {s s' : Fs} {a : Act} {w : World}

theorem ETurns.quiet {P : Program} {h : T AB} {nx : Nat} (r : Rel h nx φ w) {s : Sem Next} {v : AV} (hs : ∃ cv, s.run P w = .ok (.value cv) w ∧ VR φ v cv) : ETurns P h nx φ w s v h nx := by
  obtain ⟨cv, h1, h2⟩ := hs
  exact ⟨cv, w, φ, .inl h1, h2, r, Fr.refl _ _ _ _⟩

theorem ETurns.makes {P : Program} {h : T AB} {nx : Nat} (r : Rel h nx φ w) {s : Sem Next} {b : AB} {m : Mk} (hs : Makes P φ w s b m) : ETurns P h nx φ w s (m.val nx) (h.set nx b) (nx + 1) := by
  obtain ⟨ob, w', cv, sz, h1, h2, h3, h4, h5, h6, h7⟩ := hs
  have hnone : φ nx = none := r.dom nx (Nat.le_refl _)
  exact ⟨cv, w', φ.upd nx ⟨w.heap.size, 0, sz⟩, .inl h1, h7 _ _ (Ren.upd_self _ _ _), r.new hnone (by omega) (by omega) (h6.mono (Ren.le_upd _ hnone)) h2, Fr.new r (Nat.le_refl _) (by omega) h2 h3 h4 h5⟩

/-- A call's text, its function's value at hand. -/
theorem whoA_func {G : Nat} {c : Call} {f : FuncId} {args : List AV} (hs : SR G φ s a w) (hw : whoA G s.tm c = some (.func f args)) {o : Oper} :
    ∃ (da cap : Array Value), (∀ (P : Program) (w : World), (resolve a.eval c o.type).run P w = .ok { target := .fn (.func f) cap, args := da } w) ∧ VRs φ args (da ++ cap).toList := by
  unfold whoA at hw
  split at hw
  · rename_i g hg
    split at hw
    · rename_i f' fs cs vs h1 h2
      cases hw
      have hv := hs.opnd g h1
      have hA := opnds_sound (φ := φ) (ρ := a.eval) c.args.toList vs h2 (fun x _ v hv => hs.opnd x hv)
      cases hvr : a.eval g with
      | func fn fa ca =>
        rw [hvr] at hv
        cases hv with
        | func _ _ _ _ _ e1 e2 e3 e4 =>
          refine ⟨fa ++ c.args.map a.eval, ca, fun P w => ?_, ?_⟩
          · simp only [resolve, hg, Deferred.ofValue, hvr]; rfl
          · simp only [Array.toList_append, Array.toList_map]
            refine VRs.append (VRs.append ⟨by simpa using e1, fun i v c hv hc => e3 i v c hv (by simpa using hc)⟩ hA) ⟨by simpa using e2, fun i v c hv hc => e4 i v c hv (by simpa using hc)⟩
      | _ => rw [hvr] at hv; cases hv
    · cases hw
    · cases hw
  · cases hw

theorem whoA_yield {G : Nat} {c : Call} {l : Nat} {args : List AV} (hs : SR G φ s a w) (hw : whoA G s.tm c = some (.yield l args)) {o : Oper} :
    ∃ (da : Array Value) (lc : Loc), φ l = some lc ∧ (∀ (P : Program) (w : World), (resolve a.eval c o.type).run P w = .ok { target := .fn (.yield lc.blk) #[], args := da } w) ∧ VRs φ args da.toList := by
  unfold whoA at hw
  split at hw
  · rename_i g hg
    split at hw
    · cases hw
    · rename_i l' vs0 h1 h2
      cases hw
      have hv := hs.opnd g h1
      have hA := opnds_sound (φ := φ) (ρ := a.eval) c.args.toList _ h2 (fun x _ v hv => hs.opnd x hv)
      cases hvr : a.eval g with
      | func fn fa ca =>
        rw [hvr] at hv
        cases hv with
        | yield _ lc hl =>
          refine ⟨#[] ++ c.args.map a.eval, lc, hl, fun P w => ?_, ?_⟩
          · simp only [resolve, hg, Deferred.ofValue, hvr]; rfl
          · simpa using hA
      | _ => rw [hvr] at hv; cases hv
    · cases hw
  · cases hw

theorem stepA_sound (hE : ExtOk C) (hN : NamesOk C.P) (hrc : RcOk C.P C.G rc) (hrr : CodeOk C.P C.G rr) (hs : SR C.G φ s a w) {rd : Option Nat} {F : Fence} (hF : FR φ rd F) {o : Oper} {cf : FuncId}
    (hd : rd = none ∨ ∀ c, o.op ≠ .defer c) (hst : stepA C rc rr o s cf = some s') (Q : Exit → Act → World → Prop) : o.wpIn F 0 C.P a w (Nx C.G s.hp s.nx φ w s') Q := by
  have hsem : (∀ c, o.op ≠ .defer c) → o.semAt F.round a.eval = execOp a.eval o := fun h => Oper.semAt_eq _ _ _ h
  unfold stepA at hst
  split at hst
  · rename_i hk
    have hnd : ∀ c, o.op ≠ .defer c := fun c hh => by simp only [kindOf, hh] at hk; cases hk
    split at hst
    · rename_i v hq
      refine Does.wp (v := v) hs hF (.inl ?_) hst Q
      rw [hsem hnd]
      exact ETurns.quiet hs.rel (qop_sound hs.rel (hs.OR _) hq)
    · cases hst
  · rename_i hk
    have hnd : ∀ c, o.op ≠ .defer c := fun c hh => by simp only [kindOf, hh] at hk; cases hk
    split at hst
    · rename_i b m hl
      refine Does.wp (v := m.val s.nx) hs hF (.inl ?_) hst Q
      rw [hsem hnd]
      exact ETurns.makes hs.rel (lop_sound (hs.OR _) hl)
    · cases hst
  · rename_i hk
    have hnd : ∀ c, o.op ≠ .defer c := fun c hh => by simp only [kindOf, hh] at hk; cases hk
    split at hst
    · rename_i v h' nx' he
      refine Does.wp (v := v) hs hF (.inl ?_) hst Q
      rw [hsem hnd]
      exact eop_sound hs.rel (hs.OR _) he
    · cases hst
  · split at hst
    · rename_i c ho
      have hnd : ∀ c, o.op ≠ .defer c := fun c hh => by rw [ho] at hh; cases hh
      split at hst
      · rename_i f args hw
        split at hst
        · rename_i v h' nx' hf
          obtain ⟨da, cap, h1, h2⟩ := whoA_func (o := o) hs hw
          have hdoes := funcA_sound hE hN hrc hf h2 hs.rel hs.gl
          refine Does.wp (v := v) hs hF ?_ hst Q
          rw [hsem hnd]
          have he : (execOp a.eval o).run C.P w = (callFunc f (da ++ cap)).run C.P w := by
            simp only [execOp, ho, Sem.run_bind, h1, Result.andThen_ok, invoke]
          rcases hdoes with hd | ⟨f', ca, e1, e2⟩ | ⟨l, fn, tmps, asg, body, e1, e2⟩
          · exact .inl (ETurns.of_run he hd)
          · exact .inr (.inl ⟨f', ca, by rw [he]; exact e1, e2⟩)
          · exact .inr (.inr ⟨l, fn, tmps, asg, body, by rw [he]; exact e1, e2⟩)
        · cases hst
      · rename_i l args hw
        obtain ⟨da, lc, hl, h1, h2⟩ := whoA_yield (o := o) hs hw
        have he : (execOp a.eval o).run C.P w = (Instr.yield lc.blk da).run C.P w := by
          simp only [execOp, ho, Sem.run_bind, h1, Result.andThen_ok, invoke]
        split at hst
        · rename_i al hb
          split at hst
          · rename_i hst0
            obtain ⟨hc, hst⟩ := cond_none hst
            simp only [Bool.and_eq_true] at hc
            split at hst
            · rename_i s1 hr1
              split at hst
              · rename_i al1 hb1
                split at hst
                · rename_i hst1
                  split at hst
                  · rename_i x s2 hr2
                    split at hst
                    · rename_i al2 hdf hb2
                      have done : ∀ (pd : Option Code), ((x = .normal ∧ pd = none) ∨ (x = .ret ∧ pd = some .ret) ∨ (∃ id, x = .exit id ∧ pd = some (.exit id))) →
                          putD { s with hp := s2.hp.set l (.loop { al2 with state := if pd.isNone then .ready else .done, pending := pd }), nx := s2.nx } o.dst (.bool pd.isNone) = some s' →
                          o.wpIn F 0 C.P a w (Nx C.G s.hp s.nx φ w s') Q := by
                        intro pd hpd hput
                        have hy := yield_does (C := C) (rr := rr) hrr hs.gl hs.rel hl hb hst0 h2 (beqN.1 hc.1) hc.2 hr1 hb1 hst1 hr2 hb2 hpd
                        refine Does.wp hs hF ?_ hput Q
                        rw [hsem hnd]
                        rcases hy with hd | ⟨f', ca, e1, e2⟩ | ⟨l, fn, tmps, asg, body, e1, e2⟩
                        · exact .inl (ETurns.of_run he hd)
                        · exact .inr (.inl ⟨f', ca, by rw [he]; exact e1, e2⟩)
                        · exact .inr (.inr ⟨l, fn, tmps, asg, body, by rw [he]; exact e1, e2⟩)
                      split at hst
                      · exact done none (.inl ⟨rfl, rfl⟩) hst
                      · exact done (some .ret) (.inr (.inl ⟨rfl, rfl⟩)) hst
                      · rename_i id
                        exact done (some (.exit id)) (.inr (.inr ⟨id, rfl, rfl⟩)) hst
                    · cases hst
                  · cases hst
                · cases hst
              · cases hst
            · cases hst
          · cases hst
        · cases hst
      · cases hst
    · rename_i c ho
      have hrd : rd = none := by
        rcases hd with h | h
        · exact h
        · exact absurd ho (h c)
      subst hrd
      cases hF
      split at hst
      · rename_i f args hw
        split at hst
        · rename_i fn hfn
          split at hst
          · rename_i b hb
            obtain ⟨da, cap, h1, h2⟩ := whoA_func (o := o) hs hw
            refine ⟨fun f _ => trivial, ?_⟩
            have he : (Oper.semAt Fence.wide.round a.eval o).run C.P w = .ok (.defer { target := .fn (.func f) cap, args := da }) w := by
              show (execOp a.eval o).run C.P w = _
              simp only [execOp, ho, Sem.run_bind, h1, Result.andThen_ok, Sem.run_pure]
            rw [he, Oper.uponIn_defer]
            have hs1 : SR C.G φ { s with df := .call f args :: s.df } { a with defers := { target := .fn (.func f) cap, args := da } :: a.defers } w :=
              ⟨hs.rel, hs.tr, ⟨⟨da, cap, rfl, h2⟩, hs.df⟩, hs.gl⟩
            exact hs1.put (h' := s.hp) (nx' := s.nx) hst VR.undef hs.rel (Fr.refl _ _ _ _)
          · cases hst
        · cases hst
      · cases hst
    · cases hst

theorem opsA_sound (hE : ExtOk C) (hN : NamesOk C.P) (hrc : RcOk C.P C.G rc) (hrr : CodeOk C.P C.G rr) {ops : Array Oper} {cf : FuncId} {rd : Option Nat} {Q : Exit → Act → World → Prop} :
    ∀ (l : List Oper) (i : Nat) (s : Fs) (φ : Ren) (a : Act) (w : World) (F : Fence), l = ops.toList.drop i → opsA C rc rr ops cf rd l s = some s' → SR C.G φ s a w → FR φ rd F →
      (∀ a' w', Nx C.G s.hp s.nx φ w s' a' w' → Q .normal a' w') → wpOpsIn F 0 C.P ops Q (List.range' i (ops.size - i)) a w := by
  intro l
  induction l with
  | nil =>
    intro i s φ a w F hl ho hs hF hQ
    have hn : ops.size - i = 0 := by
      have := congrArg List.length hl
      simp at this; omega
    rw [hn]
    cases ho
    exact hQ a w ⟨φ, hs, Fr.refl _ _ _ _⟩
  | cons o l ih =>
    intro i s φ a w F hl ho hs hF hQ
    have hlt : i < ops.size := by
      rcases Nat.lt_or_ge i ops.size with hh | hh
      · exact hh
      · rw [List.drop_eq_nil_of_le (by simpa using hh)] at hl; cases hl
    have hd := List.drop_eq_getElem_cons (l := ops.toList) (i := i) (by simpa using hlt)
    rw [hd] at hl
    injection hl with e1 e2
    have hoi : ops[i]? = some o := by
      rw [e1]; simp [hlt]
    obtain ⟨n, hn⟩ : ∃ n, ops.size - i = n + 1 := ⟨ops.size - i - 1, by omega⟩
    have hn' : n = ops.size - (i + 1) := by omega
    rw [hn, List.range'_succ]
    simp only [wpOpsIn, hoi]
    simp only [opsA] at ho
    have next : ∀ (s1 : Fs), opsA C rc rr ops cf rd l s1 = some s' → ∀ a1 w1, Nx C.G s.hp s.nx φ w s1 a1 w1 → wpOpsIn F 0 C.P ops Q (List.range' (i + 1) n) a1 w1 := by
      intro s1 h1 a1 w1 ⟨φ1, sr1, f1⟩
      rw [hn']
      exact ih (i + 1) s1 φ1 a1 w1 F e2 h1 sr1 (hF.mono (hs.rel.le f1)) (fun a' w' hx => hQ a' w' (hx.trans f1))
    split at ho
    · rename_i hw
      rw [if_pos (wantedA_sound hs hw)]
      have step : ∀ (s1 : Fs), (rd = none ∨ ∀ c, o.op ≠ .defer c) → stepA C rc rr o s cf = some s1 → opsA C rc rr ops cf rd l s1 = some s' → o.wpIn F 0 C.P a w (wpOpsIn F 0 C.P ops Q (List.range' (i + 1) n)) Q := by
        intro s1 h0 h1 h2
        exact Oper.wpIn_mono (fun a1 w1 hx => next s1 h2 a1 w1 hx) (stepA_sound hE hN hrc hrr hs hF h0 h1 Q)
      have hcase : (rd = none ∨ ∀ c, o.op ≠ .defer c) ∧ (match stepA C rc rr o s cf with
          | some s' => opsA C rc rr ops cf rd l s'
          | none => none) = some s' := by
        cases rd with
        | none => exact ⟨.inl rfl, ho⟩
        | some r =>
          cases hop : o.op <;> simp only [hop] at ho <;> first | (refine ⟨.inr (fun c hc => by cases hc), ho⟩) | (cases ho; done)
      obtain ⟨h0, ho⟩ := hcase
      split at ho
      · rename_i s1 h1
        exact step s1 h0 h1 ho
      · cases ho
    · rename_i hw
      have hwf := wantedA_sound hs hw
      rw [if_neg (by rw [hwf]; simp)]
      refine ⟨fun f _ => hF.fn f, ?_⟩
      split at ho
      · rename_i s1 h1
        exact next s1 ho _ _ (hs.put (h' := s.hp) (nx' := s.nx) h1 VR.undef hs.rel (Fr.refl _ _ _ _))
      · cases ho
    · cases ho

end

end Go.Abs

namespace Go.Abs

/-- What is asked of a loop, its body first. -/
def LoopIn (F : Fence) (n : Nat) (P : Program) (c : Code) (Q : Exit → Act → World → Prop) (a : Act) (w : World) : Prop :=
  ∀ (b : Frame) (k : List Item) (cs : List Frame), b.roundOf = F.round → F.fn b.fn → F.room (cs.length + 1 + n) →
    ∃ e a' w', Q e a' w' ∧ ArrivesIn (Machine.fenced P F) P (lone (b.atR a (.code c :: .inLoop c :: k)) cs w) b k cs e a' w'

theorem wpIn_of_loopIn {F : Fence} {n : Nat} {P : Program} {c : Code} {Q : Exit → Act → World → Prop} {a : Act} {w : World} (h : LoopIn F n P c Q a w) : (Code.loop c).wpIn F n P Q a w := by
  intro b k cs hro hb hr
  obtain ⟨e, a', w', hq, harr⟩ := h b k cs hro hb hr
  exact ⟨e, a', w', hq, .of_steps (.one (fenced_calm hb hr rfl) stepR_loop) harr⟩

theorem LoopIn.step {F : Fence} {n : Nat} {P : Program} {c : Code} {Q : Exit → Act → World → Prop} {a : Act} {w : World} (h : c.wpIn F n P (Exit.then (LoopIn F n P c Q) Q) a w) : LoopIn F n P c Q a w := by
  intro b k cs hro hb hr
  obtain ⟨e, a₁, w₁, hq, harr⟩ := h b (.inLoop c :: k) cs hro hb hr
  cases e with
  | normal =>
    obtain ⟨e₂, a₂, w₂, hq₂, harr₂⟩ := hq b k cs hro hb hr
    exact ⟨e₂, a₂, w₂, hq₂, .of_steps (StepsIn.trans harr (.one (fenced_calm hb hr rfl) stepR_inLoop)) harr₂⟩
  | exit id => exact ⟨_, a₁, w₁, hq, .pass (x := .inLoop c) rfl (fun _ _ => .inl (by simp)) harr⟩
  | goto l => exact ⟨_, a₁, w₁, hq, .pass (x := .inLoop c) rfl (fun _ _ => .inl (by simp)) harr⟩
  | ret => exact ⟨_, a₁, w₁, hq, .pass (x := .inLoop c) rfl (fun _ _ => .inl (by simp)) harr⟩
  | panic ch => exact ⟨_, a₁, w₁, hq, .pass (x := .inLoop c) rfl (fun _ _ => .inl (by simp)) harr⟩
  | outgrown => exact ⟨_, a₁, w₁, hq, .pass (x := .inLoop c) rfl (fun _ _ => .inl (by simp)) harr⟩

def LoopOk (P : Program) (G : Nat) (rl : RL) : Prop :=
  ∀ (c : Code) (rd : Option Nat) (cf : Nat) (s : Fs) (x : AX) (s' : Fs) (φ : Ren) (a : Act) (w : World) (F : Fence), rl c rd cf s = some (x, s') → SR G φ s a w → FR φ rd F →
    LoopIn F 0 P c (Qx G s.hp s.nx φ w x s') a w

/-- A region that draws its order. -/
def DrawOk (C : Cfg) (rc : RC) : Prop :=
  ∀ (id : Nat) (ops : Array Oper) (s s' : Fs) (φ : Ren) (a : Act) (w : World) (rd : Option Nat) (F : Fence), regionDrawA C rc ops s = some s' → SR C.G φ s a w → FR φ rd F →
    (Code.region id ops true).wpIn F 0 C.P (Qx C.G s.hp s.nx φ w .normal s') a w

section
variable {C : Cfg} {rc rd : RC} {rl rr : RL} {φ : Ren} {s s' : Fs} {a : Act} {w : World}

theorem Qx.trans {G : Nat} {h h1 : T AB} {nx nx1 : Nat} {φ1 : Ren} {w1 : World} {x : AX} {e : Exit} {a' : Act} {w' : World} (f : Fr h nx φ w h1 nx1 φ1 w1) (hq : Qx G h1 nx1 φ1 w1 x s' e a' w') : Qx G h nx φ w x s' e a' w' :=
  ⟨hq.1, hq.2.trans f⟩

theorem run_newObj' {P : Program} (w : World) (o : Obj) : (newObj o).run P w = .ok w.heap.size { w with heap := w.heap.push o } := rfl

/-- The loop's record is laid. -/
theorem Rel.enter {h : T AB} {nx : Nat} (r : Rel h nx φ w) {P : Program} {tm : T AV} {nt : Nat} {tmps : Array Value} (ht : TR φ tm nt tmps) {d : Nat} {ld : Loc} (hd : φ d = some ld) (fn cf : FuncId) (ps : Array Tmp) (asg body : Code) :
    ∃ w' φ', (newObj (.loop { state := .ready, pending := none, fn, tmps, params := ps, assign := asg, body, defers := ld.blk })).run P w = .ok w.heap.size w' ∧ φ' nx = some ⟨w.heap.size, 0, 0⟩ ∧
      Rel (h.set nx (.loop { state := .ready, pending := none, fn := cf, tm, ntm := nt, params := ps, assign := asg, body, defers := d })) (nx + 1) φ' w' ∧
      Fr h nx φ w (h.set nx (.loop { state := .ready, pending := none, fn := cf, tm, ntm := nt, params := ps, assign := asg, body, defers := d })) (nx + 1) φ' w' := by
  have hnone : φ nx = none := r.dom nx (Nat.le_refl _)
  have hle : φ.le (φ.upd nx ⟨w.heap.size, 0, 0⟩) := Ren.le_upd _ hnone
  refine ⟨{ w with heap := w.heap.push (.loop { state := .ready, pending := none, fn, tmps, params := ps, assign := asg, body, defers := ld.blk }) }, φ.upd nx ⟨w.heap.size, 0, 0⟩, rfl, Ren.upd_self _ _ _, ?_, ?_⟩
  · refine r.new hnone (by omega) (by omega) ?_ rfl
    exact ⟨_, rfl, rfl, rfl, ht.mono hle, rfl, rfl, rfl, ld, hle _ _ hd, rfl⟩
  · exact Fr.new r (Nat.le_refl _) (by omega) rfl rfl rfl rfl

theorem around_sound {P : Program} {G : Nat} (hs : SR G φ s a w) {rd : Option Nat} {F : Fence} (hF : FR φ rd F) {dfr : Nat} {h0 : T AB} {l : Nat} {mk : List AD} (ha : aroundA rd s = some (dfr, h0, l, mk))
    (fn cf : FuncId) (ps : Array Tmp) (asg body : Code) :
    ∃ blk mark w' φ', (Instr.enterLoop fn a.tmps ps asg body F.round).run P w = .ok (blk, mark) w' ∧ φ' l = some ⟨blk, 0, 0⟩ ∧ DRs φ' mk mark ∧ mk.length = mark.length ∧
      Rel (h0.set l (.loop { state := .ready, pending := none, fn := cf, tm := s.tm, ntm := s.nt, params := ps, assign := asg, body, defers := dfr })) (l + 1) φ' w' ∧
      Fr s.hp s.nx φ w (h0.set l (.loop { state := .ready, pending := none, fn := cf, tm := s.tm, ntm := s.nt, params := ps, assign := asg, body, defers := dfr })) (l + 1) φ' w' := by
  unfold aroundA at ha
  split at ha
  · cases ha
    cases hF
    have hnone : φ s.nx = none := hs.rel.dom s.nx (Nat.le_refl _)
    obtain ⟨w1, hw1⟩ : ∃ w1 : World, w1 = { w with heap := w.heap.push (.deferred (some [])) } := ⟨_, rfl⟩
    have hw1h : w1.heap = w.heap.push (.deferred (some [])) := by rw [hw1]
    have r1 : Rel (s.hp.set s.nx .deferred) (s.nx + 1) (φ.upd s.nx ⟨w.heap.size, 0, 0⟩) w1 := hs.rel.new (sz := 0) hnone (by omega) (by omega) (show BR _ .deferred _ (.deferred (some [])) from rfl) hw1h
    have f1 : Fr s.hp s.nx φ w (s.hp.set s.nx .deferred) (s.nx + 1) (φ.upd s.nx ⟨w.heap.size, 0, 0⟩) w1 := Fr.new hs.rel (Nat.le_refl _) (by omega) hw1h (by rw [hw1]) (by rw [hw1]) (by rw [hw1])
    have hd : (φ.upd s.nx ⟨w.heap.size, 0, 0⟩) s.nx = some ⟨w.heap.size, 0, 0⟩ := Ren.upd_self _ _ _
    obtain ⟨w2, φ2, e1, e2, e3, e4⟩ := r1.enter (P := P) (hs.tr.mono (hs.rel.le f1)) hd fn cf ps asg body
    refine ⟨w1.heap.size, [{ target := .collected w.heap.size, args := #[] }], w2, φ2, ?_, e2, ⟨⟨⟨w.heap.size, 0, 0⟩, (r1.le e4) _ _ hd, rfl⟩, trivial⟩, rfl, e3, f1.trans e4⟩
    rw [run_newObj, Result.ok.injEq] at e1
    rw [← e1.2, hw1]
    simp only [Instr.enterLoop, Fence.wide, Sem.run_bind, run_newObj, Result.andThen_ok, Sem.run_pure]
  · rename_i l0
    split at ha
    · rename_i al hb
      cases ha
      cases hF with
      | rnd _ lc hl0 =>
        obtain ⟨ob, ho, hbr⟩ := hs.rel.of_blk hb hl0
        obtain ⟨cl, rfl, c1, c2, c3, c4, c5, c6, l', c7, c8⟩ := loopBR_inv hbr
        obtain ⟨w2, φ2, e1, e2, e3, e4⟩ := hs.rel.enter (P := P) hs.tr c7 fn cf ps asg body
        refine ⟨w.heap.size, [], w2, φ2, ?_, e2, trivial, rfl, e3, e4⟩
        simp only [Instr.enterLoop, Fence.inRound_round, Sem.run_bind, run_getLoop ho, Result.andThen_ok, Sem.run_pure, c8]
        rw [e1]
        rfl
    · cases ha

theorem DRs.append : ∀ {xs : List AD} {ds : List Deferred} {ys : List AD} {es : List Deferred}, DRs φ xs ds → DRs φ ys es → DRs φ (xs ++ ys) (ds ++ es)
  | [], [], _, _, _, h => h
  | _ :: _, _ :: _, _, _, ⟨h1, h2⟩, h => ⟨h1, DRs.append h2 h⟩
  | [], _ :: _, _, _, h, _ => h.elim
  | _ :: _, [], _, _, h, _ => h.elim

theorem rangeA_sound (hN : NamesOk C.P) (hrc : RcOk C.P C.G rc) (hs : SR C.G φ s a w) {rd : Option Nat} {F : Fence} (hF : FR φ rd F) {g : Operand} {f : FuncId} {cs : List AV} (hg : opnd C.G s.tm g = some (.func f [] cs)) {fn : Func} (hfn : C.P.funcs[f]? = some fn)
    {bd : Code} (hbd : fn.body = some bd) {dfr : Nat} {h0 : T AB} {l : Nat} {mk : List AD} (ha : aroundA rd s = some (dfr, h0, l, mk)) {cf : FuncId} {ps : Array Tmp} {asg body : Code} {v : AV} {h1 : T AB} {nx1 : Nat}
    (hc : rc f (.yield l :: cs) (h0.set l (.loop { state := .ready, pending := none, fn := cf, tm := s.tm, ntm := s.nt, params := ps, assign := asg, body, defers := dfr })) (l + 1) = some (v, h1, nx1))
    {al : ALoop} (hb1 : h1.get l = some (.loop al)) (hnb : al.state ≠ .busy) {x : AX} (hx : (al.pending = none ∧ x = .normal) ∨ (al.pending = some .ret ∧ x = .ret) ∨ ∃ id, al.pending = some (.exit id) ∧ x = .exit id) :
    (Code.rangeFunc g ps asg body).wpIn F 0 C.P (Qx C.G s.hp s.nx φ w x { s with hp := h1.set l (.loop { al with state := .exhausted }), nx := nx1, df := mk ++ s.df }) a w := by
  refine wpIn_rangeFunc fun fn0 _ => ?_
  obtain ⟨blk, mark, w1, φ1, e1, e2, e3, e4, r1, f1⟩ := around_sound (P := C.P) hs hF ha fn0 cf ps asg body
  have hgv := hs.opnd g hg
  cases hvr : a.eval g with
  | func fv fa ca =>
    rw [hvr] at hgv
    cases hgv with
    | func _ _ _ _ _ g1 g2 g3 g4 =>
      have hfa : fa = #[] := by
        have : fa.size = 0 := by simpa using g1.symm
        exact Array.eq_empty_of_size_eq_zero this
      subst hfa
      have hargs : VRs φ1 (.yield l :: cs) ((#[] ++ #[Value.func (.yield blk) #[] #[]]) ++ ca : Array Value).toList := by
        have hcs : VRs φ cs ca.toList := ⟨by simpa using g2, fun i v c hv hc => g4 i v c hv (by simpa using hc)⟩
        have := VRs.cons (VR.yield l _ e2) (hcs.mono (hs.rel.le f1))
        simpa using this
      have hgl : GL C.G φ1 := hs.gl.mono (hs.rel.le f1)
      refine ⟨blk, mark, w1, { target := .fn (.func f) ca, args := #[] ++ #[Value.func (.yield blk) #[] #[]] }, w1, f, (#[] ++ #[Value.func (.yield blk) #[] #[]]) ++ ca, w1, e1, ?_, fun f' _ => hF.fn f', ?_, fun hh => (by rw [hF.depth] at hh; cases hh), ?_⟩
      · have hm : Array.map a.eval #[Operand.const (Value.func (Fn.yield blk) #[] #[])] = #[Value.func (Fn.yield blk) #[] #[]] := by simp [Act.eval]
        simp only [rangeCall, resolve, Deferred.ofValue, hvr, hm]
        rfl
      · simp only [invoke, callFunc, Sem.run_bind, run_program, Result.andThen_ok, hfn, hN f fn hfn, hbd, Option.isNone_some, Bool.false_eq_true, if_false, Sem.run_pure]
      · refine (hF.calls (hrc f _ _ _ v h1 nx1 φ1 w1 _ hc hargs r1 hgl)).mono ?_
        rintro e w2 ⟨cv, φ2, rfl, hv, r2, f2⟩
        have hl2 : φ2 l = some ⟨blk, 0, 0⟩ := (r1.le f2) _ _ e2
        obtain ⟨cl, w3, k1, k2, k3, k4, k5, k6, k7, k8, r3, f3⟩ := r2.loop (P := C.P) hb1 hl2 .exhausted al.pending
        have hend : (Instr.endLoop blk).run C.P w2 = .ok al.pending w3 := by
          have hne : (cl.state == LoopState.busy) = false := by
            rw [k2]; cases hst : al.state <;> first | rfl | exact absurd hst hnb
          simp only [Instr.endLoop, Sem.run_bind, k1, Result.andThen_ok, hne, Bool.false_eq_true, if_false]
          rw [← k3] at k8
          have ecl : ({ cl with state := .exhausted, pending := cl.pending } : Loop) = { cl with state := .exhausted } := rfl
          rw [k8]
          simp only [Result.andThen_ok, Sem.run_pure, k3]
        have hfin : Nx C.G s.hp s.nx φ w { s with hp := h1.set l (.loop { al with state := .exhausted }), nx := nx1, df := mk ++ s.df } { a with defers := mark ++ a.defers } w3 := by
          have hle : φ.le φ2 := (hs.rel.le (f1.trans f2))
          have hst : (AB.loop { al with state := .exhausted, pending := al.pending }) = .loop { al with state := .exhausted } := rfl
          rw [hst] at r3 f3
          exact ⟨φ2, ⟨r3, hs.tr.mono hle, DRs.append (e3.mono (r1.le f2)) (hs.df.mono hle), hs.gl.mono hle⟩, (f1.trans f2).trans f3⟩
        refine ⟨al.pending, w3, hend, ?_⟩
        rcases hx with ⟨hp, rfl⟩ | ⟨hp, rfl⟩ | ⟨id, hp, rfl⟩
        · rw [hp] at hfin ⊢; exact ⟨rfl, hfin⟩
        · rw [hp] at hfin ⊢; exact wpIn_ret ⟨rfl, hfin⟩
        · rw [hp] at hfin ⊢; exact wpIn_exit ⟨rfl, hfin⟩
  | _ => rw [hvr] at hgv; cases hgv

theorem codeA_sound (hE : ExtOk C) (hN : NamesOk C.P) (hrc : RcOk C.P C.G rc) (hrl : LoopOk C.P C.G rl) (hrr : CodeOk C.P C.G rr) (hdr : DrawOk C rc) {cf : FuncId} :
    ∀ (c : Code) (rd : Option Nat) (s : Fs) (x : AX) (s' : Fs) (φ : Ren) (a : Act) (w : World) (F : Fence), codeA C rc rl rr rd cf c s = some (x, s') → SR C.G φ s a w → FR φ rd F →
      c.wpIn F 0 C.P (Qx C.G s.hp s.nx φ w x s') a w := by
  intro c
  induction c with
  | skip =>
    intro rd s x s' φ a w F h hs hF
    simp only [codeA] at h; cases h
    exact wpIn_skip ⟨rfl, φ, hs, Fr.refl _ _ _ _⟩
  | region id ops draw =>
    intro rd s x s' φ a w F h hs hF
    simp only [codeA] at h
    split at h
    · split at h
      · rename_i s1 h1
        cases h
        refine wpIn_region ?_
        have := opsA_sound (Q := Qx C.G s.hp s.nx φ w .normal s') hE hN hrc hrr ops.toList 0 s φ a w F (by simp) h1 hs hF (fun a' w' hx => ⟨rfl, hx⟩)
        rw [List.range_eq_range']
        simpa using this
      · cases h
    · split at h
      · rename_i s1 h1
        cases h
        exact hdr id ops s s' φ a w rd F h1 hs hF
      · cases h
  | seq p q ihp ihq =>
    intro rd s x s' φ a w F h hs hF
    simp only [codeA] at h
    split at h
    · rename_i s1 h1
      refine wpIn_seq (wpIn_mono (ihp rd s .normal s1 φ a w F h1 hs hF) ?_)
      rintro e a1 w1 ⟨rfl, φ1, sr1, f1⟩
      exact wpIn_mono (ihq rd s1 x s' φ1 a1 w1 F h sr1 (hF.mono (hs.rel.le f1))) (fun e a2 w2 hq => hq.trans f1)
    · rename_i hne
      refine wpIn_seq (wpIn_mono (ihp rd s x s' φ a w F h hs hF) ?_)
      rintro e a1 w1 ⟨rfl, hx⟩
      cases x with
      | normal => exact absurd h (hne s')
      | exit id => exact ⟨rfl, hx⟩
      | ret => exact ⟨rfl, hx⟩
  | cond g p q ihp ihq =>
    intro rd s x s' φ a w F h hs hF
    simp only [codeA] at h
    split at h
    · rename_i hg
      exact wpIn_cond_true (hs.opnd g hg).bool_inv (ihp rd s x s' φ a w F h hs hF)
    · rename_i hg
      exact wpIn_cond_false (hs.opnd g hg).bool_inv (ihq rd s x s' φ a w F h hs hF)
    · cases h
  | block id p ihp =>
    intro rd s x s' φ a w F h hs hF
    simp only [codeA] at h
    split at h
    · rename_i i s1 h1
      refine wpIn_block (wpIn_mono (ihp rd s _ s1 φ a w F h1 hs hF) ?_)
      rintro e a1 w1 ⟨rfl, hx⟩
      simp only [AX.ex, Exit.inBlock]
      cases hi : Nat.beq i id with
      | true =>
        rw [hi] at h; simp only [cond_true] at h; cases h
        rw [if_pos (beqN.1 hi)]
        exact ⟨rfl, hx⟩
      | false =>
        rw [hi] at h; simp only [cond_false] at h; cases h
        rw [if_neg (fun hh => by rw [beqN.2 hh] at hi; cases hi)]
        exact ⟨rfl, hx⟩
    · rename_i hne
      refine wpIn_block (wpIn_mono (ihp rd s x s' φ a w F h hs hF) ?_)
      rintro e a1 w1 ⟨rfl, hx⟩
      cases x with
      | normal => exact ⟨rfl, hx⟩
      | exit i => exact absurd h (hne i s')
      | ret => exact ⟨rfl, hx⟩
  | loop p ihp =>
    intro rd s x s' φ a w F h hs hF
    simp only [codeA] at h
    refine wpIn_of_loopIn (LoopIn.step ?_)
    split at h
    · rename_i s1 h1
      refine wpIn_mono (ihp rd s .normal s1 φ a w F h1 hs hF) ?_
      rintro e a1 w1 ⟨rfl, φ1, sr1, f1⟩
      intro b k cs hro hb hr
      obtain ⟨e, a2, w2, hq, harr⟩ := hrl p rd cf s1 x s' φ1 a1 w1 F h sr1 (hF.mono (hs.rel.le f1)) b k cs hro hb hr
      exact ⟨e, a2, w2, hq.trans f1, harr⟩
    · rename_i hne
      refine wpIn_mono (ihp rd s x s' φ a w F h hs hF) ?_
      rintro e a1 w1 ⟨rfl, hx⟩
      cases x with
      | normal => exact absurd h (hne s')
      | exit i => exact ⟨rfl, hx⟩
      | ret => exact ⟨rfl, hx⟩
  | exit id =>
    intro rd s x s' φ a w F h hs hF
    simp only [codeA] at h; cases h
    exact wpIn_exit ⟨rfl, φ, hs, Fr.refl _ _ _ _⟩
  | ret =>
    intro rd s x s' φ a w F h hs hF
    simp only [codeA] at h; cases h
    exact wpIn_ret ⟨rfl, φ, hs, Fr.refl _ _ _ _⟩
  | rangeFunc g ps asg body ih1 ih2 =>
    intro rd s x s' φ a w F h hs hF
    simp only [codeA] at h
    split at h
    · rename_i f cs hg
      split at h
      · rename_i fn hfn
        split at h
        · rename_i bd hbd
          split at h
          · rename_i dfr h0 l mk ha
            split at h
            · rename_i v h1 nx1 hc
              split at h
              · rename_i al hb1
                split at h
                · cases h
                · rename_i hnb
                  have hnb' : al.state ≠ .busy := fun hh => hnb hh
                  split at h
                  · rename_i hp
                    cases h
                    exact rangeA_sound hN hrc hs hF hg hfn hbd ha hc hb1 hnb' (.inl ⟨hp, rfl⟩)
                  · rename_i hp
                    cases h
                    exact rangeA_sound hN hrc hs hF hg hfn hbd ha hc hb1 hnb' (.inr (.inl ⟨hp, rfl⟩))
                  · rename_i id hp
                    cases h
                    exact rangeA_sound hN hrc hs hF hg hfn hbd ha hc hb1 hnb' (.inr (.inr ⟨id, hp, rfl⟩))
                  · cases h
              · cases h
            · cases h
          · cases h
        · cases h
      · cases h
    · cases h
  | _ => intro rd s x s' φ a w F h hs hF; simp only [codeA] at h; cases h

end

end Go.Abs

namespace Go.Abs

/-- A deferred call's contract. -/
def RdOk (P : Program) (G : Nat) (rd : RC) : Prop :=
  ∀ (f : FuncId) (args : List AV) (h : T AB) (nx : Nat) (v : AV) (h' : T AB) (nx' : Nat) (φ : Ren) (w : World) (cargs : Array Value), rd f args h nx = some (v, h', nx') → VRs φ args cargs.toList → Rel h nx φ w → GL G φ →
    (∃ fn c, P.funcs[f]? = some fn ∧ fn.body = some c) ∧ ∀ u, CallsDIn Fence.wide 0 P f cargs u w (fun e u' w' => u' = u ∧ RR h nx φ w v h' nx' e w')

section
variable {C : Cfg} {rc rd : RC} {rl rr : RL} {φ : Ren} {s s' : Fs} {a : Act} {w : World}

theorem loadVar_sound {P : Program} {h : T AB} {nx : Nat} (r : Rel h nx φ w) {t : TypeId} {x v : AV} {c : Value} (hl : loadA P h t x = some v) (hx : VR φ x c) : ∃ cv, (do loadVar t (← asAddr c) : Sem Value).run P w = .ok cv w ∧ VR φ v cv := by
  obtain ⟨cv, h1, h2⟩ := load_sound (P := P) r hl hx
  refine ⟨cv, ?_, h2⟩
  cases hx with
  | ptr b o l hb => rw [← h1]; rfl
  | _ => simp [loadA] at hl

def resVal (tmps : Array Value) : ResultVar → Sem Value
  | .tmp t => pure (tmps.getD t undef)
  | .cell a t => do loadVar t (← asAddr (tmps.getD a undef))

theorem results_sound {P : Program} {h : T AB} {nx : Nat} (r : Rel h nx φ w) {tm : T AV} {nt : Nat} {tmps : Array Value} (ht : TR φ tm nt tmps) : ∀ (rs : List ResultVar) (vs : List AV), resultsA P h tm rs = some vs →
    ∃ cvs : List Value, (rs.mapM (resVal tmps)).run P w = .ok cvs w ∧ VRs φ vs cvs := by
  intro rs
  have get : ∀ t v, tm.get t = some v → VR φ v (tmps.getD t undef) := by
    intro t v hv
    obtain ⟨c, h1, h2⟩ := ht.2 t v hv
    rw [Array.getD_eq_getD_getElem?, h1]; exact h2
  induction rs with
  | nil => intro vs h; simp only [resultsA] at h; cases h; exact ⟨[], by simp, VRs.nil⟩
  | cons x rs ih =>
    intro vs hv
    cases x with
    | tmp t =>
      simp only [resultsA] at hv
      split at hv
      · rename_i v hg
        split at hv
        · rename_i vs' hvs
          cases hv
          obtain ⟨cvs, h1, h2⟩ := ih vs' hvs
          refine ⟨tmps.getD t undef :: cvs, ?_, VRs.cons (get t v hg) h2⟩
          simp only [List.mapM_cons, resVal, Sem.run_bind, Sem.run_pure, Result.andThen_ok, h1]
        · cases hv
      · cases hv
    | cell b t =>
      simp only [resultsA] at hv
      split at hv
      · rename_i x hg
        split at hv
        · rename_i v hl
          split at hv
          · rename_i vs' hvs
            cases hv
            obtain ⟨cvs, h1, h2⟩ := ih vs' hvs
            obtain ⟨cv, h3, h4⟩ := loadVar_sound (P := P) r hl (get b x hg)
            refine ⟨cv :: cvs, ?_, VRs.cons h4 h2⟩
            simp only [List.mapM_cons, resVal, Sem.run_bind] at h3 ⊢
            rw [h3]
            simp only [Result.andThen_ok, h1, Sem.run_pure]
          · cases hv
        · cases hv
      · cases hv

def oneOf : List Value → Value
  | [c] => c
  | cs => .tuple cs.toArray
def oneOfA : List AV → AV
  | [v] => v
  | vs => .tuple vs

theorem results_run {P : Program} {fn : Func} {tmps : Array Value} {cvs : List Value} (hm : (fn.results.toList.mapM (resVal tmps)).run P w = .ok cvs w) :
    (results fn tmps).run P w = .ok (oneOf cvs) w := by
  have hr : results fn tmps = (do
    let vs ← fn.results.mapM (resVal tmps)
    pure (if h : vs.size = 1 then vs[0] else .tuple vs)) := rfl
  rw [hr, Array.mapM_eq_mapM_toList]
  simp only [Sem.run_bind, map_eq_pure_bind, hm, Result.andThen_ok, Sem.run_pure]
  congr 1
  match cvs with
  | [c] => rfl
  | [] => rfl
  | _ :: _ :: _ => rfl

theorem taken_sound {P : Program} {h : T AB} {nx : Nat} (r : Rel h nx φ w) {i : Nat} (hb : h.get i = some .deferred) {l : Loc} (hl : φ i = some l) :
    ∃ w', (Instr.takeDeferred l.blk).run P w = .ok [] w' ∧ Rel (h.del i) nx φ w' ∧ Fr h nx φ w (h.del i) nx φ w' := by
  obtain ⟨ob, ho, hbr⟩ := r.of_blk hb hl
  have hob : ob = .deferred (some []) := hbr
  subst hob
  refine ⟨{ w with heap := w.heap.setIfInBounds l.blk (.deferred none) }, ?_, ?_, ?_⟩
  · simp [Instr.takeDeferred, getObj, setObj, Sem.run, Sem.run_bind, ho, Result.andThen]
  · refine ⟨r.dom, fun j bj hj => ?_, (r.del i).inj⟩
    have hji : j ≠ i := fun e => by rw [T.get_del, if_pos e] at hj; cases hj
    rw [T.get_del, if_neg hji] at hj
    obtain ⟨lj, oj, h1, h2, h3⟩ := r.blk j bj hj
    refine ⟨lj, oj, h1, ?_, h3⟩
    have hne : l.blk ≠ lj.blk := fun e => hji (r.inj j i bj _ lj l hj hb h1 hl e.symm)
    rw [← h2]
    simp [hne]
  · refine ⟨fun _ _ => rfl, Nat.le_refl _, by simp, fun k _ hk => ?_, fun k hk _ => hk.of_del, rfl, rfl, rfl⟩
    have hne : l.blk ≠ k := fun e => hk ⟨i, _, l, hb, hl, e⟩
    simp [hne]

theorem leaves_sound (hN : NamesOk C.P) (hrd : RdOk C.P C.G rd) {fn : Func} {tm : T AV} {nt : Nat} {tmps : Array Value} {R : Ending → World → Prop} :
    ∀ (df : List AD) (ds : List Deferred) (h : T AB) (nx : Nat) (φ : Ren) (w : World) (h' : T AB) (nx' : Nat) (vs : List AV), defersA C rd df h nx = some (h', nx') → DRs φ df ds → Rel h nx φ w → GL C.G φ → TR φ tm nt tmps →
      resultsA C.P h' tm fn.results.toList = some vs →
      (∀ φ' w' cvs, Rel h' nx' φ' w' → Fr h nx φ w h' nx' φ' w' → VRs φ' vs cvs → R (.returned (oneOf cvs)) w') →
      LeavesInM Fence.wide 0 C.P fn tmps R ds .returning w := by
  intro df
  induction df with
  | nil =>
    intro ds h nx φ w h' nx' vs hd hds r gl ht hres hR
    cases ds with
    | cons d ds => exact hds.elim
    | nil =>
      simp only [defersA] at hd; cases hd
      obtain ⟨cvs, h1, h2⟩ := results_sound (P := C.P) r ht _ _ hres
      exact ⟨_, results_run h1, hR φ w cvs r (Fr.refl _ _ _ _) h2⟩
  | cons x df ih =>
    intro ds h nx φ w h' nx' vs hd hds r gl ht hres hR
    cases ds with
    | nil => exact hds.elim
    | cons d ds =>
      obtain ⟨hx, hds⟩ := hds
      refine ⟨by simp, ?_⟩
      cases x with
      | mark i =>
        obtain ⟨l, hl, rfl⟩ := hx
        simp only [defersA] at hd
        split at hd
        · rename_i hb
          obtain ⟨w1, t1, r1, f1⟩ := taken_sound (P := C.P) r hb hl
          exact .inl ⟨l.blk, w1, rfl, t1, ih ds _ nx φ w1 h' nx' vs hd hds r1 gl ht hres (fun φ' w' cvs a b c => hR φ' w' cvs a (f1.trans b) c)⟩
        · cases hd
      | call f args =>
        obtain ⟨da, cap, rfl, hv⟩ := hx
        simp only [defersA] at hd
        split at hd
        · rename_i v1 h1 nx1 hc
          obtain ⟨⟨fn1, c1, hf1, hb1⟩, hcall⟩ := hrd f args h nx v1 h1 nx1 φ w (da ++ cap) hc hv r gl
          refine .inr ⟨(fun hh => by cases hh), Fn.func f, cap, f, da ++ cap, rfl, ?_, fun _ _ => trivial, ?_⟩
          · simp only [invoke, callFunc, Sem.run_bind, run_program, Result.andThen_ok, hf1, hN f fn1 hf1, hb1, Option.isNone_some, Bool.false_eq_true, if_false, Sem.run_pure]
          · refine (hcall .returning).mono ?_
            rintro e u' w' ⟨rfl, cv, φ1, rfl, hv1, r1, f1⟩
            have hle := r.le f1
            exact ih ds h1 nx1 φ1 w' h' nx' vs hd (hds.mono hle) r1 (gl.mono hle) (ht.mono hle) hres (fun φ' w' cvs a b c => hR φ' w' cvs a (f1.trans b) c)
        · cases hd

/-- Arguments as a function's first temporaries. -/
theorem enter_TR {args : List AV} {cargs : Array Value} (hv : VRs φ args cargs.toList) (n : Nat) : TR φ (T.ofList .leaf 0 args) (max args.length n) (cargs ++ Array.replicate (n - cargs.size) undef) := by
  have hl : args.length = cargs.size := by have := hv.1; simpa using this
  refine ⟨by simp; omega, fun t v hg => ?_⟩
  rw [ofList_get] at hg
  obtain ⟨c, h1, h2⟩ := hv.get hg
  have hlt : t < cargs.size := by
    rcases Nat.lt_or_ge t cargs.toList.length with hh | hh
    · simpa using hh
    · rw [List.getElem?_eq_none hh] at h1; cases h1
  exact ⟨c, by rw [Array.getElem?_append_left hlt]; simpa using h1, h2⟩

theorem results_VR {vs : List AV} {cvs : List Value} (h : VRs φ vs cvs) : VR φ (oneOfA vs) (oneOf cvs) := by
  match vs, cvs, h with
  | [v], [c], h => exact h.head
  | [], [], h => exact h.tuple
  | _ :: _ :: _, _ :: _ :: _, h => exact h.tuple
  | [], _ :: _, h => exact absurd h.1 (by simp)
  | _ :: _, [], h => exact absurd h.1 (by simp)
  | [_], _ :: _ :: _, h => exact absurd h.1 (by simp)
  | _ :: _ :: _, [_], h => exact absurd h.1 (by simp)

theorem callA_inv {pl : Bool} {f : FuncId} {args : List AV} {h : T AB} {nx : Nat} {v : AV} {h' : T AB} {nx' : Nat} (hc : callA C pl rc rd rl rr f args h nx = some (v, h', nx')) :
    ∃ fn c x s vs, C.P.funcs[f]? = some fn ∧ fn.body = some c ∧ codeA C rc rl rr none f c { tm := T.ofList .leaf 0 args, nt := max args.length fn.ntmps, df := [], hp := h, nx } = some (x, s) ∧ (∀ id, x ≠ .exit id) ∧
      (pl = true → s.df = []) ∧ defersA C rd s.df s.hp s.nx = some (h', nx') ∧ resultsA C.P h' s.tm fn.results.toList = some vs ∧ v = oneOfA vs := by
  unfold callA at hc
  split at hc
  · rename_i fn hfn
    split at hc
    · rename_i c hb
      split at hc
      · cases hc
      · rename_i x s hne hcode
        split at hc
        · rename_i h1 nx1 hd
          obtain ⟨hpl, hd⟩ := cond_none' hd
          have hdf : pl = true → s.df = [] := fun hh => by
            rw [hh, Bool.true_and] at hpl
            cases hs : s.df with
            | nil => rfl
            | cons a b => rw [hs] at hpl; simp at hpl
          split at hc
          · rename_i v1 hr
            cases hc
            exact ⟨fn, c, x, s, [v], hfn, hb, hcode, fun id hh => hne id hh, hdf, hd, hr, rfl⟩
          · rename_i vs hnv hr
            cases hc
            refine ⟨fn, c, x, s, vs, hfn, hb, hcode, fun id hh => hne id hh, hdf, hd, hr, ?_⟩
            match vs, hnv with
            | [v], hnv => exact absurd rfl (hnv v)
            | [], _ => rfl
            | _ :: _ :: _, _ => rfl
          · cases hc
        · cases hc
      · cases hc
    · cases hc
  · cases hc

end

end Go.Abs

namespace Go.Abs

section
variable {C : Cfg} {rc rd : RC} {rl rr : RL}

theorem loopA_sound (hE : ExtOk C) (hN : NamesOk C.P) (hrc : RcOk C.P C.G rc) (hrl : LoopOk C.P C.G rl) (hrr : CodeOk C.P C.G rr) (hdr : DrawOk C rc) {cf : FuncId} {c : Code} {rd : Option Nat} {s : Fs} {x : AX} {s' : Fs} {φ : Ren}
    {a : Act} {w : World} {F : Fence} (h : codeA C rc rl rr rd cf (.loop c) s = some (x, s')) (hs : SR C.G φ s a w) (hF : FR φ rd F) : LoopIn F 0 C.P c (Qx C.G s.hp s.nx φ w x s') a w := by
  simp only [codeA] at h
  refine LoopIn.step ?_
  split at h
  · rename_i s1 h1
    refine wpIn_mono (codeA_sound hE hN hrc hrl hrr hdr c rd s .normal s1 φ a w F h1 hs hF) ?_
    rintro e a1 w1 ⟨rfl, φ1, sr1, f1⟩
    intro b k cs hro hb hr
    obtain ⟨e, a2, w2, hq, harr⟩ := hrl c rd cf s1 x s' φ1 a1 w1 F h sr1 (hF.mono (hs.rel.le f1)) b k cs hro hb hr
    exact ⟨e, a2, w2, hq.trans f1, harr⟩
  · rename_i hne
    refine wpIn_mono (codeA_sound hE hN hrc hrl hrr hdr c rd s x s' φ a w F h hs hF) ?_
    rintro e a1 w1 ⟨rfl, hx⟩
    cases x with
    | normal => exact absurd h (hne s')
    | exit i => exact ⟨rfl, hx⟩
    | ret => exact ⟨rfl, hx⟩

theorem call_sound (hE : ExtOk C) (hN : NamesOk C.P) (hrc : RcOk C.P C.G rc) (hrd : RdOk C.P C.G rd) (hrl : LoopOk C.P C.G rl) (hrr : CodeOk C.P C.G rr) (hdr : DrawOk C rc)
    {f : FuncId} {args : List AV} {h : T AB} {nx : Nat} {v : AV} {h' : T AB} {nx' : Nat} {φ : Ren} {w : World} {cargs : Array Value} (hc : callA C false rc rd rl rr f args h nx = some (v, h', nx')) (hv : VRs φ args cargs.toList)
    (r : Rel h nx φ w) (gl : GL C.G φ) : CallsIn Fence.wide 0 C.P f cargs w (RR h nx φ w v h' nx') := by
  obtain ⟨fn, c, x, s, vs, hfn, hb, hcode, hne, _, hd, hres, rfl⟩ := callA_inv hc
  have hs0 : SR C.G φ { tm := T.ofList .leaf 0 args, nt := max args.length fn.ntmps, df := [], hp := h, nx } { tmps := cargs ++ Array.replicate (fn.ntmps - cargs.size) undef, defers := [] } w :=
    ⟨r, enter_TR hv _, trivial, gl⟩
  have hwp := codeA_sound hE hN hrc hrl hrr hdr c none _ x s φ _ w Fence.wide hcode hs0 .out
  refine callsIn_of_wp_marks hfn hb trivial (wpIn_mono hwp ?_)
  rintro e a1 w1 ⟨rfl, φ1, sr1, f1⟩
  have hl : LeavesInM Fence.wide 0 C.P fn a1.tmps (RR h nx φ w (oneOfA vs) h' nx') a1.defers .returning w1 :=
    leaves_sound hN hrd s.df a1.defers s.hp s.nx φ1 w1 h' nx' vs hd sr1.df sr1.rel sr1.gl sr1.tr hres (fun φ' w' cvs r2 f2 hvs => ⟨_, φ', rfl, results_VR hvs, r2, f1.trans f2⟩)
  cases x with
  | normal => exact hl
  | ret => exact hl
  | exit id => exact absurd rfl (hne id)

theorem dcall_sound (hE : ExtOk C) (hN : NamesOk C.P) (hrc : RcOk C.P C.G rc) (hrl : LoopOk C.P C.G rl) (hrr : CodeOk C.P C.G rr) (hdr : DrawOk C rc)
    {f : FuncId} {args : List AV} {h : T AB} {nx : Nat} {v : AV} {h' : T AB} {nx' : Nat} {φ : Ren} {w : World} {cargs : Array Value} (hc : callA C true rc rd rl rr f args h nx = some (v, h', nx')) (hv : VRs φ args cargs.toList)
    (r : Rel h nx φ w) (gl : GL C.G φ) : (∃ fn c, C.P.funcs[f]? = some fn ∧ fn.body = some c) ∧ ∀ u, CallsDIn Fence.wide 0 C.P f cargs u w (fun e u' w' => u' = u ∧ RR h nx φ w v h' nx' e w') := by
  obtain ⟨fn, c, x, s, vs, hfn, hb, hcode, hne, hdf, hd, hres, rfl⟩ := callA_inv hc
  refine ⟨⟨fn, c, hfn, hb⟩, fun u => ?_⟩
  have hs0 : SR C.G φ { tm := T.ofList .leaf 0 args, nt := max args.length fn.ntmps, df := [], hp := h, nx } { tmps := cargs ++ Array.replicate (fn.ntmps - cargs.size) undef, defers := [] } w :=
    ⟨r, enter_TR hv _, trivial, gl⟩
  have hwp := codeA_sound hE hN hrc hrl hrr hdr c none _ x s φ _ w Fence.wide hcode hs0 .out
  refine callsDIn_of_wp hfn hb trivial (wpIn_mono hwp ?_)
  rintro e a1 w1 ⟨rfl, φ1, sr1, f1⟩
  have hdf0 := hdf rfl
  have hdef : a1.defers = [] := by
    have := sr1.df
    rw [hdf0] at this
    cases hd1 : a1.defers with
    | nil => rfl
    | cons d ds => rw [hd1] at this; exact this.elim
  rw [hdf0] at hd
  simp only [defersA] at hd
  obtain ⟨rfl, rfl⟩ : s.hp = h' ∧ s.nx = nx' := by cases hd; exact ⟨rfl, rfl⟩
  obtain ⟨cvs, h1, h2⟩ := results_sound (P := C.P) sr1.rel sr1.tr _ _ hres
  have hl : a1.defers = [] ∧ ∃ v, (results fn a1.tmps).run C.P w1 = .ok v w1 ∧ RR h nx φ w (oneOfA vs) s.hp s.nx (.returned v) w1 :=
    ⟨hdef, _, results_run h1, _, φ1, rfl, results_VR h2, sr1.rel, f1⟩
  cases x with
  | normal => exact hl
  | ret => exact hl
  | exit id => exact absurd rfl (hne id)

end

/-- All the parts of the evaluator, at each fuel. -/
theorem run_ok {C : Cfg} (hE : ExtOk C) (hN : NamesOk C.P) (hdr : ∀ rc, RcOk C.P C.G rc → DrawOk C rc) : ∀ n : Nat,
    RcOk C.P C.G (toRC (run C n)) ∧ RdOk C.P C.G (toRD (run C n)) ∧ LoopOk C.P C.G (toRL (run C n)) ∧ CodeOk C.P C.G (toRR (run C n)) := by
  intro n
  induction n with
  | zero =>
    refine ⟨fun f args h nx v h' nx' φ w cargs hh => ?_, fun f args h nx v h' nx' φ w cargs hh => ?_, fun c rd cf s x s' φ a w F hh => ?_, fun c rd cf s x s' φ a w F hh => ?_⟩
    all_goals first | (simp [toRC, run] at hh; done) | (simp [toRD, run] at hh; done) | (simp [toRL, run] at hh; done) | (simp [toRR, run] at hh; done)
  | succ n ih =>
    obtain ⟨i1, i2, i3, i4⟩ := ih
    have hd := hdr _ i1
    refine ⟨fun f args h nx v h' nx' φ w cargs hh hv r gl => ?_, fun f args h nx v h' nx' φ w cargs hh hv r gl => ?_, fun c rd cf s x s' φ a w F hh hs hF => ?_, fun c rd cf s x s' φ a w F hh hs hF => ?_⟩
    · simp only [toRC, run, taskA] at hh
      cases hc : callA C false (toRC (run C n)) (toRD (run C n)) (toRL (run C n)) (toRR (run C n)) f args h nx with
      | none => rw [hc] at hh; cases hh
      | some p =>
        obtain ⟨v1, h1, n1⟩ := p
        rw [hc] at hh
        cases hh
        exact call_sound hE hN i1 i2 i3 i4 hd hc hv r gl
    · simp only [toRD, run, taskA] at hh
      cases hc : callA C true (toRC (run C n)) (toRD (run C n)) (toRL (run C n)) (toRR (run C n)) f args h nx with
      | none => rw [hc] at hh; cases hh
      | some p =>
        obtain ⟨v1, h1, n1⟩ := p
        rw [hc] at hh
        cases hh
        exact dcall_sound hE hN i1 i3 i4 hd hc hv r gl
    · simp only [toRL, run, taskA] at hh
      cases hc : codeA C (toRC (run C n)) (toRL (run C n)) (toRR (run C n)) rd cf (.loop c) s with
      | none => rw [hc] at hh; cases hh
      | some p =>
        obtain ⟨x1, s1⟩ := p
        rw [hc] at hh
        cases hh
        exact loopA_sound hE hN i1 i3 i4 hd hc hs hF
    · simp only [toRR, run, taskA] at hh
      cases hc : codeA C (toRC (run C n)) (toRL (run C n)) (toRR (run C n)) rd cf c s with
      | none => rw [hc] at hh; cases hh
      | some p =>
        obtain ⟨x1, s1⟩ := p
        rw [hc] at hh
        cases hh
        exact codeA_sound hE hN i1 i3 i4 hd c rd s x s' φ a w F hc hs hF

end Go.Abs

namespace Go.Abs

theorem boolEq' {a b : Bool} (h : cond a b (!b) = true) : a = b := by cases a <;> cases b <;> first | rfl | cases h

mutual
theorem AV.beq_eq : ∀ (x y : AV), AV.beq x y = true → x = y
  | .bool a, y, h => by cases y <;> first | (cases h; done) | (rw [boolEq' h])
  | .int k a, y, h => by
    cases y <;> first | (cases h; done) | skip
    simp only [AV.beq, Bool.and_eq_true, decide_eq_true_eq, eqI_iff, beq_iff_eq] at h
    rw [h.1, h.2]
  | .str n c, y, h => by
    cases y <;> first | (cases h; done) | skip
    simp only [AV.beq, Bool.and_eq_true, beqN] at h
    rw [h.1, h.2]
  | .ptr n c, y, h => by
    cases y <;> first | (cases h; done) | skip
    simp only [AV.beq, Bool.and_eq_true, beqN] at h
    rw [h.1, h.2]
  | .nilPtr, y, h => by cases y <;> first | (cases h; done) | rfl
  | .slice a b c d, y, h => by
    cases y <;> first | (cases h; done) | skip
    simp only [AV.beq, Bool.and_eq_true, beqN] at h
    rw [h.1, h.2.1, h.2.2.1, h.2.2.2]
  | .sliceU a b c d, y, h => by
    cases y <;> first | (cases h; done) | skip
    simp only [AV.beq, Bool.and_eq_true, beqN] at h
    rw [h.1, h.2.1, h.2.2.1, h.2.2.2]
  | .nilSlice, y, h => by cases y <;> first | (cases h; done) | rfl
  | .map a, y, h => by
    cases y <;> first | (cases h; done) | skip
    simp only [AV.beq, beqN] at h
    rw [h]
  | .nilMap, y, h => by cases y <;> first | (cases h; done) | rfl
  | .func f a b, y, h => by
    cases y <;> first | (cases h; done) | skip
    simp only [AV.beq, Bool.and_eq_true, beqN] at h
    rw [h.1, AV.beqs_eq _ _ h.2.1, AV.beqs_eq _ _ h.2.2]
  | .yield a, y, h => by
    cases y <;> first | (cases h; done) | skip
    simp only [AV.beq, beqN] at h
    rw [h]
  | .nilFunc, y, h => by cases y <;> first | (cases h; done) | rfl
  | .iface t v, y, h => by
    cases y <;> first | (cases h; done) | skip
    simp only [AV.beq, Bool.and_eq_true, beqN] at h
    rw [h.1, AV.beq_eq _ _ h.2]
  | .nilIface, y, h => by cases y <;> first | (cases h; done) | rfl
  | .agg a, y, h => by
    cases y <;> first | (cases h; done) | skip
    simp only [AV.beq] at h
    rw [AV.beqs_eq _ _ h]
  | .tuple a, y, h => by
    cases y <;> first | (cases h; done) | skip
    simp only [AV.beq] at h
    rw [AV.beqs_eq _ _ h]
theorem AV.beqs_eq : ∀ (x y : List AV), AV.beqs x y = true → x = y
  | [], y, h => by cases y <;> first | (cases h; done) | rfl
  | a :: l, y, h => by
    cases y <;> first | (cases h; done) | skip
    simp only [AV.beqs, Bool.and_eq_true] at h
    rw [AV.beq_eq _ _ h.1, AV.beqs_eq _ _ h.2]
end


/-! ### what must stand ahead -/

/-- Whatever has been listed, so has all that must stand ahead of it. -/
def Closed (ops : Array Oper) (L : Nat → Prop) : Prop := ∀ i o, L i → ops[i]? = some o → ∀ e ∈ o.after, Region.binds .any e = true → L e.on

theorem testBit_foldl {es : List Edge} (acc : Array Nat) (k : Nat) : ∀ s : Nat, (es.foldl (fun s e => if Region.binds .any e then s ||| 2 ^ e.on ||| acc.getD e.on 0 else s) s).testBit k = true →
    s.testBit k = true ∨ ∃ e ∈ es, Region.binds .any e = true ∧ (k = e.on ∨ (acc.getD e.on 0).testBit k = true) := by
  induction es with
  | nil => intro s h; exact .inl h
  | cons e es ih =>
    intro s h
    rw [List.foldl_cons] at h
    rcases ih _ h with h | ⟨e', he', hb, hk⟩
    · split at h
      · rename_i hb
        rw [Nat.testBit_or, Nat.testBit_or, Bool.or_eq_true, Bool.or_eq_true] at h
        rcases h with (h | h) | h
        · exact .inl h
        · right
          refine ⟨e, by simp, hb, .inl ?_⟩
          rw [Nat.testBit_two_pow] at h
          simpa using (of_decide_eq_true h).symm
        · exact .inr ⟨e, by simp, hb, .inr h⟩
      · exact .inl h
    · exact .inr ⟨e', by simp [he'], hb, hk⟩

def befList (acc : Array Nat) : List Oper → Array Nat
  | [] => acc
  | o :: l => befList (acc.push (o.after.toList.foldl (fun s e => if Region.binds .any e then s ||| 2 ^ e.on ||| acc.getD e.on 0 else s) 0)) l

theorem before_eq (ops : Array Oper) : Region.before ops = befList #[] ops.toList := by
  unfold Region.before
  rw [← Array.foldl_toList]
  have : ∀ (l : List Oper) (acc : Array Nat), l.foldl (fun acc o => acc.push (o.after.foldl (fun s e => if Region.binds .any e then s ||| 2 ^ e.on ||| acc.getD e.on 0 else s) 0)) acc = befList acc l := by
    intro l
    induction l with
    | nil => intro acc; rfl
    | cons o l ih =>
      intro acc
      rw [List.foldl_cons, ih, befList, ← Array.foldl_toList]
  exact this _ _

theorem befList_get : ∀ (l : List Oper) (acc : Array Nat) (i k : Nat), ((befList acc l).getD i 0).testBit k = true →
    (i < acc.size ∧ (acc.getD i 0).testBit k = true) ∨ (∃ j o, l[j]? = some o ∧ i = acc.size + j ∧ ∃ e ∈ o.after.toList, Region.binds .any e = true ∧ (k = e.on ∨ (e.on < i ∧ ((befList acc l).getD e.on 0).testBit k = true))) := by
  intro l
  induction l with
  | nil =>
    intro acc i k h
    simp only [befList] at h
    refine .inl ⟨?_, h⟩
    rcases Nat.lt_or_ge i acc.size with hh | hh
    · exact hh
    · rw [Array.getD_eq_getD_getElem?, Array.getElem?_eq_none hh] at h; simp at h
  | cons o l ih =>
    intro acc i k h
    simp only [befList] at h ⊢
    rcases ih _ i k h with ⟨h1, h2⟩ | ⟨j, o', hj, hi, e, he, hb, hk⟩
    · rw [Array.size_push] at h1
      rcases Nat.lt_or_ge i acc.size with hh | hh
      · left
        refine ⟨hh, ?_⟩
        rw [Array.getD_eq_getD_getElem?, Array.getElem?_push_lt hh] at h2
        rw [Array.getD_eq_getD_getElem?, Array.getElem?_eq_getElem hh]; exact h2
      · have hie : i = acc.size := by omega
        subst hie
        right
        refine ⟨0, o, rfl, rfl, ?_⟩
        rw [Array.getD_eq_getD_getElem?, Array.getElem?_push_size] at h2
        simp only [Option.getD_some] at h2
        rcases testBit_foldl acc k 0 h2 with h3 | ⟨e, he, hb, hk⟩
        · simp at h3
        · refine ⟨e, he, hb, ?_⟩
          rcases hk with hk | hk
          · exact .inl hk
          · right
            have hlt : e.on < acc.size := by
              rcases Nat.lt_or_ge e.on acc.size with hh | hh
              · exact hh
              · rw [Array.getD_eq_getD_getElem?, Array.getElem?_eq_none hh] at hk; simp at hk
            refine ⟨hlt, ?_⟩
            rw [befList_keep _ _ _ (by rw [Array.size_push]; omega), Array.getD_eq_getD_getElem?, Array.getElem?_push_lt hlt]
            rw [Array.getD_eq_getD_getElem?, Array.getElem?_eq_getElem hlt] at hk; exact hk
    · right
      refine ⟨j + 1, o', by simpa using hj, by rw [Array.size_push] at hi; omega, e, he, hb, hk⟩
where
  befList_keep : ∀ (l : List Oper) (acc : Array Nat) (i : Nat), i < acc.size → (befList acc l).getD i 0 = acc.getD i 0 := by
    intro l
    induction l with
    | nil => intro acc i _; rfl
    | cons o l ih =>
      intro acc i hi
      rw [befList, ih _ _ (by rw [Array.size_push]; omega), Array.getD_eq_getD_getElem?, Array.getD_eq_getD_getElem?, Array.getElem?_push_lt hi, Array.getElem?_eq_getElem hi]

/-- All that must stand ahead of an operation has been listed, where its own edges have. -/
theorem before_listed {ops : Array Oper} {L : Nat → Prop} (hc : Closed ops L) : ∀ (i : Nat) (o : Oper), ops[i]? = some o → (∀ e ∈ o.after, Region.binds .any e = true → L e.on) → ∀ k, ((Region.before ops).getD i 0).testBit k = true → L k := by
  intro i
  induction i using Nat.strongRecOn with
  | _ i ih =>
    intro o ho hL k hk
    rw [before_eq] at hk
    rcases befList_get _ _ i k hk with ⟨h1, _⟩ | ⟨j, o', hj, hi, e, he, hb, hk⟩
    · simp at h1
    · have hij : i = j := by simpa using hi
      subst hij
      have : o' = o := by
        rw [Array.getElem?_toList] at hj
        rw [ho] at hj; cases hj; rfl
      subst this
      have hle := hL e (by simpa using he) hb
      rcases hk with rfl | ⟨hlt, hk⟩
      · exact hle
      · have hsz : e.on < ops.size := by
          rcases Nat.lt_or_ge i ops.size with hh | hh
          · omega
          · rw [Array.getElem?_eq_none hh] at ho; cases ho
        refine ih e.on hlt ops[e.on] (by simp [hsz]) (fun e' he' hb' => hc e.on _ hle (by simp [hsz]) e' he' hb') k ?_
        rw [before_eq]; exact hk

end Go.Abs

namespace Go.Abs

/-! ### regions that draw their order: the trace -/

section
variable {C : Cfg} {rc : RC} {ops : Array Oper} {b : Array Nat} {nt nx0 : Nat} {st : Nat → Ds}

/-- The states through which the evaluator goes, in the text's order. -/
def Trace (C : Cfg) (rc : RC) (ops : Array Oper) (b : Array Nat) (nt nx0 : Nat) (st : Nat → Ds) : Prop :=
  ∀ i o, ops[i]? = some o → ∃ w, wantedA ops (st i).tm o = some w ∧ drawStep C rc b nt nx0 o i w (st i) = some (st (i + 1))

theorem drawA_trace : ∀ (l : List Oper) (i : Nat) (d d' : Ds), drawA C rc ops b nt nx0 l i d = some d' →
    ∃ st : Nat → Ds, st i = d ∧ st (i + l.length) = d' ∧ ∀ k o, l[k]? = some o → ∃ w, wantedA ops (st (i + k)).tm o = some w ∧ drawStep C rc b nt nx0 o (i + k) w (st (i + k)) = some (st (i + k + 1)) := by
  intro l
  induction l with
  | nil => intro i d d' h; simp only [drawA] at h; cases h; exact ⟨fun _ => d, rfl, rfl, fun k o hk => by simp at hk⟩
  | cons o l ih =>
    intro i d d' h
    simp only [drawA] at h
    split at h
    · cases h
    · rename_i w hw
      split at h
      · rename_i d1 h1
        obtain ⟨st, s1, s2, s3⟩ := ih (i + 1) d1 d' h
        refine ⟨fun k => if k ≤ i then d else st k, by simp, ?_, fun k o' hk => ?_⟩
        · simp only [List.length_cons]
          rw [if_neg (by omega), ← s2]; congr 1; omega
        · cases k with
          | zero =>
            simp at hk; subst hk
            refine ⟨w, by simpa using hw, ?_⟩
            simp only [Nat.add_zero, Nat.le_refl, if_true]
            rw [if_neg (by omega), s1]; exact h1
          | succ k =>
            obtain ⟨w', a1, a2⟩ := s3 k o' (by simpa using hk)
            refine ⟨w', ?_, ?_⟩
            · simp only []
              rw [if_neg (by omega), show i + (k + 1) = i + 1 + k by omega]; exact a1
            · simp only []
              rw [if_neg (by omega), if_neg (by omega), show i + (k + 1) = i + 1 + k by omega]; exact a2
      · cases h

theorem putT_inv {tm tm' : T AV} {d : Option Tmp} {v : AV} (h : putT tm nt d v = some tm') : (d = none ∧ tm' = tm) ∨ ∃ t, d = some t ∧ t < nt ∧ tm' = tm.set t v := by
  unfold putT at h
  split at h
  · cases h; exact .inl ⟨rfl, rfl⟩
  · rename_i t
    obtain ⟨hb, h⟩ := cond_none h
    cases h
    exact .inr ⟨t, rfl, by simpa [Nat.blt_eq] using hb, rfl⟩

/-- What a step comes to. -/
inductive StepD (C : Cfg) (rc : RC) (b : Array Nat) (nt nx0 : Nat) (o : Oper) (i : Nat) : Bool → Ds → Ds → AV → Prop where
  | idle (d : Ds) (tm : T AV) (hk : kindOf C.P o = .quiet) (hp : putT d.tm nt o.dst (.tuple []) = some tm) : StepD C rc b nt nx0 o i false d { d with tm } (.tuple [])
  | quiet (d : Ds) (tm : T AV) (v : AV) (hk : kindOf C.P o = .quiet) (hq : qop C.P C.G (cond (reads C.P o) d.hp .leaf) d.tm o = some v) (hp : putT d.tm nt o.dst v = some tm) :
      StepD C rc b nt nx0 o i true d { d with tm, rs := cond (reads C.P o) ({ i, o, tm := d.tm, v } :: d.rs) d.rs } v
  | noAlloc (d : Ds) (tm : T AV) (hk : kindOf C.P o = .alloc) (hp : putT d.tm nt o.dst (.tuple []) = some tm) : StepD C rc b nt nx0 o i false d { d with tm, al := d.al + 1 } (.tuple [])
  | alloc (d : Ds) (tm : T AV) (bl : AB) (m : Mk) (hk : kindOf C.P o = .alloc) (hl : lop C.P C.G d.tm o = some (bl, m)) (hp : putT d.tm nt o.dst (m.val (nx0 + d.al)) = some tm) :
      StepD C rc b nt nx0 o i true d { d with tm, al := d.al + 1, fl := (i, nx0 + d.al, bl) :: d.fl } (m.val (nx0 + d.al))
  | noEff (d : Ds) (tm : T AV) (hk : effD C.P o = true) (hp : putT d.tm nt o.dst (.tuple []) = some tm) : StepD C rc b nt nx0 o i false d { d with tm, hs := (d.hp, i) :: d.hs } (.tuple [])
  | eff (d : Ds) (tm : T AV) (v : AV) (h2 : T AB) (nx : Nat) (hk : effD C.P o = true) (ha : actD C rc o (absorbH (b.getD i 0) d.fl d.hp) d.nx d.tm = some (v, h2, nx)) (hp : putT d.tm nt o.dst v = some tm) :
      StepD C rc b nt nx0 o i true d { d with tm, hp := h2, nx, hs := (d.hp, i) :: d.hs, fl := absorbF (b.getD i 0) d.fl } v

theorem drawStep_inv {o : Oper} {i : Nat} {w : Bool} {d d' : Ds} (h : drawStep C rc b nt nx0 o i w d = some d') : ∃ v, StepD C rc b nt nx0 o i w d d' v ∧ putT d.tm nt o.dst v = some d'.tm := by
  unfold drawStep at h
  split at h
  · rename_i hk
    split at h
    · split at h
      · rename_i tm hp; cases h; exact ⟨_, .idle d tm hk hp, hp⟩
      · cases h
    · split at h
      · cases h
      · rename_i v hq
        split at h
        · cases h
        · rename_i tm hp; cases h; exact ⟨_, .quiet d tm v hk hq hp, hp⟩
  · rename_i hk
    split at h
    · split at h
      · rename_i tm hp; cases h; exact ⟨_, .noAlloc d tm hk hp, hp⟩
      · cases h
    · split at h
      · cases h
      · rename_i bl m hl
        split at h
        · cases h
        · rename_i tm hp; cases h; exact ⟨_, .alloc d tm bl m hk hl hp, hp⟩
  · rename_i hk1 hk2
    have hk : effD C.P o = true := by
      unfold effD
      cases hk : kindOf C.P o <;> first | rfl | exact absurd hk hk1 | exact absurd hk hk2
    split at h
    · split at h
      · rename_i tm hp; cases h; exact ⟨_, .noEff d tm hk hp, hp⟩
      · cases h
    · split at h
      · cases h
      · rename_i v h2 nx ha
        split at h
        · cases h
        · rename_i tm hp; cases h; exact ⟨_, .eff d tm v h2 nx hk ha hp, hp⟩

theorem effD_quiet {P : Program} {o : Oper} (h : kindOf P o = .quiet) : effD P o = false := by unfold effD; rw [h]
theorem effD_alloc {P : Program} {o : Oper} (h : kindOf P o = .alloc) : effD P o = false := by unfold effD; rw [h]

theorem Trace.step (ht : Trace C rc ops b nt nx0 st) {i : Nat} {o : Oper} (ho : ops[i]? = some o) : ∃ w v, wantedA ops (st i).tm o = some w ∧ StepD C rc b nt nx0 o i w (st i) (st (i + 1)) v ∧ putT (st i).tm nt o.dst v = some (st (i + 1)).tm := by
  obtain ⟨w, h1, h2⟩ := ht i o ho
  obtain ⟨v, h3, h4⟩ := drawStep_inv h2
  exact ⟨w, v, h1, h3, h4⟩

theorem StepD.keeps {o : Oper} {i : Nat} {w : Bool} {d d' : Ds} {v : AV} (h : StepD C rc b nt nx0 o i w d d' v) (he : effD C.P o = false) : d'.hp = d.hp ∧ d'.nx = d.nx ∧ d'.hs = d.hs := by
  cases h with
  | noEff _ _ hk => rw [he] at hk; cases hk
  | eff _ _ _ _ _ hk => rw [he] at hk; cases hk
  | _ => exact ⟨rfl, rfl, rfl⟩

/-- A temporary that none writes keeps its word. -/
theorem Trace.tm_keep (ht : Trace C rc ops b nt nx0 st) {t : Tmp} {k : Nat} : ∀ j, k ≤ j → j ≤ ops.size → (∀ i o, k ≤ i → i < j → ops[i]? = some o → o.dst ≠ some t) → (st j).tm.get t = (st k).tm.get t := by
  intro j
  induction j with
  | zero => intro h _ _; have : k = 0 := by omega
            subst this; rfl
  | succ j ih =>
    intro hk hj hno
    rcases Nat.lt_or_ge j k with hlt | hge
    · have : k = j + 1 := by omega
      subst this; rfl
    · obtain ⟨w, v, _, _, hp⟩ := ht.step (i := j) (o := ops[j]) (by simp [show j < ops.size by omega])
      rw [← ih hge (by omega) (fun i o h1 h2 => hno i o h1 (by omega))]
      rcases putT_inv hp with ⟨_, e⟩ | ⟨u, hu, _, e⟩
      · rw [e]
      · rw [e, T.get_set]
        have := hno j ops[j] hge (by omega) (by simp [show j < ops.size by omega])
        rw [if_neg (fun hh => this (by rw [hu, hh]))]

/-- Memory where no effect stands. -/
theorem Trace.hp_keep (ht : Trace C rc ops b nt nx0 st) {k : Nat} : ∀ j, k ≤ j → j ≤ ops.size → (∀ i o, k ≤ i → i < j → ops[i]? = some o → effD C.P o = false) → (st j).hp = (st k).hp ∧ (st j).nx = (st k).nx := by
  intro j
  induction j with
  | zero => intro h _ _; have : k = 0 := by omega
            subst this; exact ⟨rfl, rfl⟩
  | succ j ih =>
    intro hk hj hno
    rcases Nat.lt_or_ge j k with hlt | hge
    · have : k = j + 1 := by omega
      subst this; exact ⟨rfl, rfl⟩
    · obtain ⟨w, v, _, hs, _⟩ := ht.step (i := j) (o := ops[j]) (by simp [show j < ops.size by omega])
      obtain ⟨h1, h2, _⟩ := hs.keeps (hno j ops[j] hge (by omega) (by simp [show j < ops.size by omega]))
      obtain ⟨h3, h4⟩ := ih hge (by omega) (fun i o h1 h2 => hno i o h1 (by omega))
      exact ⟨h1.trans h3, h2.trans h4⟩

/-- The blocks made. -/
def Made (C : Cfg) (ops : Array Oper) (nx0 : Nat) (st : Nat → Ds) (i id : Nat) (bl : AB) : Prop := ∃ o, ops[i]? = some o ∧ kindOf C.P o = .alloc ∧ id = nx0 + (st i).al ∧ (st (i + 1)).fl = (i, id, bl) :: (st i).fl

theorem absorbF_mem (m : Nat) : ∀ (l : List (Nat × Nat × AB)) (x : Nat × Nat × AB), x ∈ absorbF m l → x ∈ l ∧ Nat.testBit m x.1 = false := by
  intro l
  induction l with
  | nil => intro x h; cases h
  | cons y l ih =>
    intro x h
    obtain ⟨i, id, bl⟩ := y
    simp only [absorbF] at h
    cases hb : Nat.testBit m i with
    | true =>
      rw [hb] at h
      obtain ⟨h1, h2⟩ := ih x h
      exact ⟨List.mem_cons_of_mem _ h1, h2⟩
    | false =>
      rw [hb] at h
      rcases List.mem_cons.1 h with rfl | h
      · exact ⟨by simp, hb⟩
      · obtain ⟨h1, h2⟩ := ih x h
        exact ⟨List.mem_cons_of_mem _ h1, h2⟩

theorem absorbF_sub (m : Nat) : ∀ (l : List (Nat × Nat × AB)), (absorbF m l).Sublist l := by
  intro l
  induction l with
  | nil => exact .slnil
  | cons y l ih =>
    obtain ⟨i, id, bl⟩ := y
    simp only [absorbF]
    cases Nat.testBit m i with
    | true => exact ih.cons _
    | false => exact ih.cons_cons _

/-- What a step does to the blocks made. -/
theorem Trace.fl_step (ht : Trace C rc ops b nt nx0 st) {i : Nat} {o : Oper} (ho : ops[i]? = some o) :
    (∃ id bl, (st (i + 1)).fl = (i, id, bl) :: (st i).fl ∧ Made C ops nx0 st i id bl) ∨ (st (i + 1)).fl = (st i).fl ∨ ((st (i + 1)).fl = absorbF (b.getD i 0) (st i).fl ∧ effD C.P o = true ∧ kindOf C.P o ≠ .alloc) := by
  obtain ⟨w, v, _, hs, _⟩ := ht.step ho
  generalize hd : st (i + 1) = d' at hs
  cases hs with
  | alloc _ tm bl m hk hl hp =>
    left
    have e : (st (i + 1)).fl = (i, nx0 + (st i).al, bl) :: (st i).fl := by rw [hd]
    exact ⟨_, _, rfl, o, ho, hk, rfl, e⟩
  | eff _ tm _ h2 nx hk ha hp =>
    exact .inr (.inr ⟨rfl, hk, fun hh => by rw [effD_alloc hh] at hk; cases hk⟩)
  | _ => exact .inr (.inl rfl)

/-- The blocks that are at hand ahead of an operation: who made them; what was at hand earlier. -/
theorem Trace.fl_mem (ht : Trace C rc ops b nt nx0 st) (h0 : (st 0).fl = []) : ∀ j, j ≤ ops.size → ∀ i id bl, (i, id, bl) ∈ (st j).fl → i < j ∧ Made C ops nx0 st i id bl ∧ ∀ m, m ≤ j → m ≤ i ∨ (i, id, bl) ∈ (st m).fl := by
  intro j
  induction j with
  | zero => intro _ i id bl h; rw [h0] at h; cases h
  | succ j ih =>
    intro hj i id bl h
    have ho : ops[j]? = some ops[j] := by simp [show j < ops.size by omega]
    have old : (i, id, bl) ∈ (st j).fl → i < j + 1 ∧ Made C ops nx0 st i id bl ∧ ∀ m, m ≤ j + 1 → m ≤ i ∨ (i, id, bl) ∈ (st m).fl := by
      intro hm
      obtain ⟨h1, h2, h3⟩ := ih (by omega) i id bl hm
      refine ⟨by omega, h2, fun m hm => ?_⟩
      rcases Nat.lt_or_ge j m with hlt | hge
      · have : m = j + 1 := by omega
        subst this; exact .inr h
      · exact h3 m hge
    rcases ht.fl_step ho with ⟨id', bl', he, hm⟩ | he | ⟨he, _⟩
    · rw [he] at h
      rcases List.mem_cons.1 h with hh | hh
      · cases hh
        refine ⟨by omega, hm, fun m hm' => ?_⟩
        rcases Nat.lt_or_ge j m with hlt | hge
        · have : m = j + 1 := by omega
          subst this; rw [he]; exact .inr (by simp)
        · exact .inl hge
      · exact old hh
    · rw [he] at h; exact old h
    · rw [he] at h; exact old (absorbF_mem _ _ _ h).1

theorem Trace.fl_nodup (ht : Trace C rc ops b nt nx0 st) (h0 : (st 0).fl = []) : ∀ j, j ≤ ops.size → (st j).fl.Pairwise (fun x y => x.1 ≠ y.1) := by
  intro j
  induction j with
  | zero => intro _; rw [h0]; exact .nil
  | succ j ih =>
    intro hj
    have ho : ops[j]? = some ops[j] := by simp [show j < ops.size by omega]
    rcases ht.fl_step ho with ⟨id', bl', he, hm⟩ | he | ⟨he, _⟩
    · rw [he]
      refine .cons (fun x hx => ?_) (ih (by omega))
      have := (ht.fl_mem h0 j (by omega) x.1 x.2.1 x.2.2 hx).1
      simp; omega
    · rw [he]; exact ih (by omega)
    · rw [he]; exact (ih (by omega)).sublist (absorbF_sub _ _)

theorem Made.uniq {i id id' : Nat} {bl bl' : AB} (h : Made C ops nx0 st i id bl) (h' : Made C ops nx0 st i id' bl') : id = id' ∧ bl = bl' := by
  obtain ⟨_, _, _, _, e⟩ := h
  obtain ⟨_, _, _, _, e'⟩ := h'
  rw [e] at e'
  injection e' with e1 _
  injection e1 with _ e2
  injection e2 with e3 e4
  exact ⟨e3, e4⟩

/-! ### blocks come to the heap -/

/-- A block that is made, and not tracked as yet. -/
def FloatOk (h : T AB) (φ : Ren) (w : World) (B : Nat) (id : Nat) (bl : AB) : Prop := ∃ l o, φ id = some l ∧ w.heap[l.blk]? = some o ∧ BR φ bl l o ∧ B ≤ l.blk ∧ ¬ Owns h φ l.blk

theorem Rel.absorb {h : T AB} {nx : Nat} {φ : Ren} {w : World} (r : Rel h nx φ w) {id : Nat} {bl : AB} {l : Loc} {o : Obj} (hl : φ id = some l) (hw : w.heap[l.blk]? = some o) (hb : BR φ bl l o) (hn : ¬ Owns h φ l.blk) :
    Rel (h.set id bl) nx φ w where
  dom := r.dom
  blk := fun j bj hj => by
    rw [T.get_set] at hj
    by_cases e : j = id
    · subst e
      simp at hj; subst hj
      exact ⟨l, o, hl, hw, hb⟩
    · rw [if_neg e] at hj; exact r.blk j bj hj
  inj := fun j k bj bk lj lk hj hk ej ek e => by
    rw [T.get_set] at hj hk
    by_cases e1 : j = id
    · by_cases e2 : k = id
      · rw [e1, e2]
      · rw [if_neg e2] at hk
        subst e1
        rw [hl] at ej; cases ej
        exact absurd ⟨k, bk, lk, hk, ek, e.symm⟩ hn
    · rw [if_neg e1] at hj
      by_cases e2 : k = id
      · subst e2
        rw [hl] at ek; cases ek
        exact absurd ⟨j, bj, lj, hj, ej, e⟩ hn
      · rw [if_neg e2] at hk
        exact r.inj j k bj bk lj lk hj hk ej ek e

theorem Owns.of_set {h : T AB} {φ : Ren} {id : Nat} {bl : AB} {k : Nat} {l : Loc} (hl : φ id = some l) (ho : Owns (h.set id bl) φ k) : k = l.blk ∨ Owns h φ k := by
  obtain ⟨j, bj, lj, a, c, e⟩ := ho
  rw [T.get_set] at a
  by_cases hj : j = id
  · subst hj
    rw [hl] at c; cases c
    exact .inl e.symm
  · rw [if_neg hj] at a
    exact .inr ⟨j, bj, lj, a, c, e⟩

end

end Go.Abs

namespace Go.Abs

section
variable {h : T AB} {nx : Nat} {φ : Ren} {w : World}

theorem absorbH_eq (m : Nat) : ∀ (l : List (Nat × Nat × AB)) (h : T AB), absorbH m l h = absorbAll (l.filter fun x => Nat.testBit m x.1) h := by
  intro l
  induction l with
  | nil => intro h; rfl
  | cons x l ih =>
    intro h
    obtain ⟨i, id, bl⟩ := x
    simp only [absorbH]
    cases hb : Nat.testBit m i with
    | true => rw [List.filter_cons_of_pos (by simpa using hb)]; exact ih _
    | false => rw [List.filter_cons_of_neg (by simp [hb])]; exact ih _

theorem absorbAll_sound {B : Nat} : ∀ (l : List (Nat × Nat × AB)) (h : T AB), Rel h nx φ w → (∀ x ∈ l, FloatOk h φ w B x.2.1 x.2.2) →
    l.Pairwise (fun x y => ∀ a c, φ x.2.1 = some a → φ y.2.1 = some c → a.blk ≠ c.blk) →
    Rel (absorbAll l h) nx φ w ∧ ∀ k, Owns (absorbAll l h) φ k → Owns h φ k ∨ ∃ x ∈ l, ∃ a, φ x.2.1 = some a ∧ a.blk = k := by
  intro l
  induction l with
  | nil => intro h r _ _; exact ⟨r, fun k hk => .inl hk⟩
  | cons x l ih =>
    intro h r hf hp
    obtain ⟨i, id, bl⟩ := x
    obtain ⟨lc, o, h1, h2, h3, h4, h5⟩ := hf (i, id, bl) (by simp)
    have r1 := r.absorb h1 h2 h3 h5
    simp only [absorbAll]
    obtain ⟨i1, i2⟩ := ih (h.set id bl) r1 (fun y hy => by
      obtain ⟨ly, oy, g1, g2, g3, g4, g5⟩ := hf y (by simp [hy])
      refine ⟨ly, oy, g1, g2, g3, g4, fun ho => ?_⟩
      rcases ho.of_set h1 with e | ho
      · exact (List.rel_of_pairwise_cons hp hy) lc ly h1 g1 e.symm
      · exact g5 ho) hp.of_cons
    refine ⟨i1, fun k hk => ?_⟩
    rcases i2 k hk with ho | ⟨y, hy, a, ha, e⟩
    · rcases ho.of_set h1 with e | ho
      · exact .inr ⟨(i, id, bl), by simp, lc, h1, e.symm⟩
      · exact .inl ho
    · exact .inr ⟨y, by simp [hy], a, ha, e⟩

theorem Fr.absorb {h0 : T AB} {nx0 : Nat} {φ0 : Ren} {w0 : World} (f : Fr h0 nx0 φ0 w0 h nx φ w) {h' : T AB} (hown : ∀ k, Owns h' φ k → Owns h φ k ∨ w0.heap.size ≤ k) : Fr h0 nx0 φ0 w0 h' nx φ w where
  ren := f.ren
  nx := f.nx
  size := f.size
  old := f.old
  own := fun k hk hlt => by
    rcases hown k hk with ho | hge
    · exact f.own k ho hlt
    · omega
  os := f.os
  tape := f.tape
  output := f.output

/-- A block that is made and not tracked as yet. -/
theorem Rel.float (r : Rel h nx φ w) {id : Nat} (hi : φ id = none) (hn : id < nx) {o : Obj} {w' : World} (hw : w'.heap = w.heap.push o) (sz : Nat) : Rel h nx (φ.upd id ⟨w.heap.size, 0, sz⟩) w' where
  dom := fun j hj => by rw [Ren.upd_ne _ _ (by omega)]; exact r.dom j hj
  blk := fun j bj hj => by
    obtain ⟨l, o', h1, h2, h3⟩ := r.blk j bj hj
    have hne : j ≠ id := fun e => by subst e; rw [hi] at h1; cases h1
    refine ⟨l, o', by rw [Ren.upd_ne _ _ hne]; exact h1, ?_, h3.mono (Ren.le_upd _ hi)⟩
    rw [hw, Array.getElem?_push, if_neg (by have := r.lt hj h1; omega)]; exact h2
  inj := fun j k bj bk lj lk hj hk ej ek e => by
    have hnej : j ≠ id := fun e' => by obtain ⟨l, _, h1, _⟩ := r.blk j bj hj; subst e'; rw [hi] at h1; cases h1
    have hnek : k ≠ id := fun e' => by obtain ⟨l, _, h1, _⟩ := r.blk k bk hk; subst e'; rw [hi] at h1; cases h1
    rw [Ren.upd_ne _ _ hnej] at ej
    rw [Ren.upd_ne _ _ hnek] at ek
    exact r.inj j k bj bk lj lk hj hk ej ek e

theorem Owns.of_upd (r : Rel h nx φ w) {id : Nat} (hi : φ id = none) {l : Loc} {k : Nat} (ho : Owns h (φ.upd id l) k) : Owns h φ k := by
  obtain ⟨j, bj, lj, a, c, e⟩ := ho
  have hne : j ≠ id := fun e' => by obtain ⟨l, _, h1, _⟩ := r.blk j bj a; subst e'; rw [hi] at h1; cases h1
  rw [Ren.upd_ne _ _ hne] at c
  exact ⟨j, bj, lj, a, c, e⟩

theorem Rel.empty (r : Rel h nx φ w) : Rel .leaf nx φ w :=
  ⟨r.dom, (fun i b hb => by rw [T.get_leaf] at hb; cases hb), (fun i j bi bj li lj hi => by rw [T.get_leaf] at hi; cases hi)⟩

end

/-! ### the invariant -/

structure Inv (C : Cfg) (ops : Array Oper) (st : Nat → Ds) (s0 : Fs) (φ0 : Ren) (w0 : World) (L : Nat → Prop) (m : Nat) (φ : Ren) (a : Act) (w : World) : Prop where
  hm : m ≤ ops.size
  eff_lt : ∀ e o, L e → ops[e]? = some o → effD C.P o = true → e < m
  m_eff : m = 0 ∨ ∃ e o, m = e + 1 ∧ L e ∧ ops[e]? = some o ∧ effD C.P o = true
  rel : Rel (st m).hp (st m).nx φ w
  fr : Fr s0.hp s0.nx φ0 w0 (st m).hp (st m).nx φ w
  nxle : s0.nx + allocsOf C.P ops ≤ (st m).nx
  tmsz : a.tmps.size = s0.nt
  tm : ∀ t, ∃ k, k ≤ ops.size ∧ (k = 0 ∨ ∃ i o, k = i + 1 ∧ L i ∧ ops[i]? = some o ∧ o.dst = some t) ∧ (∀ i o, L i → ops[i]? = some o → o.dst = some t → i < k) ∧
    ∀ v, (st k).tm.get t = some v → ∃ c, a.tmps[t]? = some c ∧ VR φ v c
  fl : ∀ i id bl, L i → Made C ops s0.nx st i id bl → (m ≤ i ∨ (i, id, bl) ∈ (st m).fl) → FloatOk (st m).hp φ w w0.heap.size id bl
  flD : ∀ i id bl, L i → Made C ops s0.nx st i id bl → ∃ l, φ id = some l ∧ l.blk < w.heap.size
  flI : ∀ i j id id' bl bl' l l', L i → L j → i ≠ j → Made C ops s0.nx st i id bl → Made C ops s0.nx st j id' bl' → φ id = some l → φ id' = some l' → l.blk ≠ l'.blk
  free : ∀ i o, ¬ L i → ops[i]? = some o → kindOf C.P o = .alloc → φ (s0.nx + (st i).al) = none
  df : DRs φ s0.df a.defers
  gl : GL C.G φ

/-- What is known of a region's text. -/
structure Txt (C : Cfg) (ops : Array Oper) (b : Array Nat) : Prop where
  back : ∀ i o e, ops[i]? = some o → e ∈ o.after → Region.binds .any e = true → e.on < i
  tmps : ∀ i o t j q, ops[i]? = some o → o.dst = some t → ops[j]? = some q → i ≠ j → (q.dst = some t ∨ t ∈ q.looksAt ops) → (i < j → Nat.testBit (b.getD j 0) i = true) ∧ (j < i → Nat.testBit (b.getD i 0) j = true)
  effs : ∀ i o j q, ops[i]? = some o → ops[j]? = some q → effD C.P o = true → effD C.P q = true → i < j → Nat.testBit (b.getD j 0) i = true

theorem zipIdx_all {α : Type} {l : List α} {p : α × Nat → Bool} (h : l.zipIdx.all p = true) {i : Nat} {x : α} (hx : l[i]? = some x) : p (x, i) = true := by
  rw [List.all_eq_true] at h
  apply h
  rw [List.mk_mem_zipIdx_iff_getElem?]
  exact hx

theorem drawOk_txt {C : Cfg} {ops : Array Oper} (h : drawOk C.P ops = true) : Txt C ops (Region.before ops) := by
  unfold drawOk at h
  simp only [Bool.and_eq_true] at h
  obtain ⟨h1, h2, h3⟩ := h
  have get : ∀ {i : Nat} {o : Oper}, ops[i]? = some o → ops.toList[i]? = some o := fun h => by rw [Array.getElem?_toList]; exact h
  refine ⟨fun i o e ho he hb => ?_, fun i o t j q ho hd hq hne hn => ?_, fun i o j q ho hq he1 he2 hlt => ?_⟩
  · have := zipIdx_all h1 (get ho)
    simp only [List.all_eq_true] at this
    have := this e (by simpa using he)
    simpa [hb, Nat.blt_eq] using this
  · have := zipIdx_all h2 (get ho)
    simp only [hd] at this
    have := zipIdx_all this (get hq)
    simp only [Bool.or_eq_true, Bool.not_eq_true'] at this
    have hne' : ¬ (Nat.beq i j = true) := fun hh => hne (beqN.1 hh)
    have hnm : ¬ (((match q.dst with
           | some u => Nat.beq u t
           | none => false) || (q.looksAt ops).contains t) = false) := by
      rcases hn with hn | hn
      · rw [hn]; simp
      · have : (q.looksAt ops).contains t = true := by simpa using hn
        rw [this]; simp
    have this := (this.resolve_left hne').resolve_left hnm
    refine ⟨fun hlt => ?_, fun hlt => ?_⟩
    · have hb : Nat.blt i j = true := by simpa [Nat.blt_eq] using hlt
      rw [hb] at this; exact this
    · have hb : Nat.blt i j = false := by
        cases hh : Nat.blt i j with
        | false => rfl
        | true => have : i < j := by simpa [Nat.blt_eq] using hh
                  omega
      rw [hb] at this; exact this
  · have := zipIdx_all h3 (get ho)
    simp only [he1, Bool.not_true, Bool.false_or] at this
    have := zipIdx_all this (get hq)
    have hb : Nat.blt i j = true := by simpa [Nat.blt_eq] using hlt
    simpa [he2, hb] using this

end Go.Abs
