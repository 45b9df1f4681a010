/-
  BODY-LESS FUNCTIONS; calls that are known beforehand; from a closed run to a law. (The conditions stand in the row and the card that are given.) Written by an AI agent for this claim.
-/
import Derived.Test.YtbbpbklbmoeocaaGreatDoorEvG
import Derived.Laws.LoneSync
import Derived.ChangeFn
import Derived.HandedShaped
import Derived.Lib.LaidTab
set_option linter.unusedVariables false
set_option linter.unusedSimpArgs false
namespace Go.Abs
open Go

/-- Which body-less function it is, by the model's own table. -/
def ExtIs (fn : Func) : EK → Prop
  | .load k => Extern.find fn = some (Extern.Atomic.loadT (.int k))
  | .store => Extern.find fn = some Extern.Atomic.storeT
  | .cas k => Extern.find fn = some (Extern.Atomic.casT (.int k))
  | .add k => Extern.find fn = some (Extern.Atomic.update (Op.intArith .add) k true)
  | .none1 => ∃ m, Extern.find fn = some (Extern.Race.marked m)
  | .none0 => ∃ m, Extern.find fn = some (fun _ => do mark m; pure Extern.Race.none_)
  | _ => False

end Go.Abs

namespace Go.Abs
open Go

theorem VRs.inv_nil {φ : Ren} {a : List Value} (h : VRs φ [] a) : a = [] := by
  have := h.1
  cases a with
  | nil => rfl
  | cons x l => simp at this
theorem VRs.inv_cons {φ : Ren} {v : AV} {l : List AV} {a : List Value} (h : VRs φ (v :: l) a) : ∃ c m, a = c :: m ∧ VR φ v c ∧ VRs φ l m := by
  cases a with
  | nil => have := h.1; simp at this
  | cons c m => exact ⟨c, m, rfl, h.head, h.tail⟩
theorem VRs.one_inv {φ : Ren} {v : AV} {a : Array Value} (h : VRs φ [v] a.toList) : ∃ c, a = #[c] ∧ VR φ v c := by
  obtain ⟨c, m, e, h1, h2⟩ := h.inv_cons
  rw [h2.inv_nil] at e
  exact ⟨c, by cases a; simp_all, h1⟩
theorem VRs.two_inv {φ : Ren} {v u : AV} {a : Array Value} (h : VRs φ [v, u] a.toList) : ∃ c d, a = #[c, d] ∧ VR φ v c ∧ VR φ u d := by
  obtain ⟨c, m, e, h1, h2⟩ := h.inv_cons
  obtain ⟨d, n, e2, h3, h4⟩ := h2.inv_cons
  rw [h4.inv_nil] at e2
  subst e2
  exact ⟨c, d, by cases a; simp_all, h1, h3⟩
theorem VRs.three_inv {φ : Ren} {v u t : AV} {a : Array Value} (h : VRs φ [v, u, t] a.toList) : ∃ c d e, a = #[c, d, e] ∧ VR φ v c ∧ VR φ u d ∧ VR φ t e := by
  obtain ⟨c, m, e, h1, h2⟩ := h.inv_cons
  obtain ⟨d, n, e2, h3, h4⟩ := h2.inv_cons
  obtain ⟨x, p, e3, h5, h6⟩ := h4.inv_cons
  rw [h6.inv_nil] at e3
  subst e3; subst e2
  exact ⟨c, d, x, by cases a; simp_all, h1, h3, h5⟩
theorem VR.ptr_inv {φ : Ren} {b o : Nat} {c : Value} (h : VR φ (.ptr b o) c) : ∃ l, φ b = some l ∧ c = .pointer (some ⟨l.blk, l.dlt + o, none⟩) := by
  cases h with
  | ptr b o l hl => exact ⟨l, hl, rfl⟩
theorem ETurns.here {P : Program} {h : T AB} {nx : Nat} {φ : Ren} {w : World} {s : Sem Next} {v : AV} {cv : Value} (r : Rel h nx φ w) (hv : VR φ v cv) (hs : s.run P w = .ok (.value cv) w) : ETurns P h nx φ w s v h nx :=
  ⟨cv, w, φ, .inl hs, hv, r, Fr.refl _ _ _ _⟩

theorem cells_true {α : Type} {b : Bool} {x y : α} (e : cond b (some x) none = some y) : b = true ∧ x = y := by
  cases b with
  | false => cases e
  | true => exact ⟨rfl, Option.some.inj e⟩

theorem ext_ok {C : Cfg} (hN : NamesOk C.P) (hX : ∀ (f : FuncId) (fn : Func) (k : EK), C.P.funcs[f]? = some fn → C.X f = some k → Extern.findNext fn = none ∧ ExtIs fn k) : ExtOk C := by
  intro f fn k hf hbody hk h nx φ w args cargs v h' he hv r
  obtain ⟨hn, hi⟩ := hX f fn k hf hk
  have hname := hN f fn hf
  have hb : fn.body.isNone = true := by rw [hbody]; rfl
  unfold extA at he
  split at he
  · -- load
    rename_i k b o
    obtain ⟨c, rfl, hc⟩ := hv.one_inv
    obtain ⟨l, hl, rfl⟩ := hc.ptr_inv
    split at he
    · rename_i cs n e opn fz hb1
      split at he
      · rename_i k' m hcs
        obtain ⟨hkk, e1⟩ := cells_true he
        injection e1 with e1 e2; subst e1; subst e2
        have hkk : k = k' := of_decide_eq_true hkk
        subst hkk
        obtain ⟨x, hx, hr⟩ := r.cell hb1 hl hcs
        obtain rfl := hr.int_inv
        exact ETurns.here r (.int _ _) (run_call_load hf hname hb hn k hi hx)
      · cases he
    · cases he
  · -- store
    rename_i b o j y
    obtain ⟨c, d, rfl, hc, hd⟩ := hv.two_inv
    obtain ⟨l, hl, rfl⟩ := hc.ptr_inv
    obtain rfl := hd.int_inv
    split at he
    · rename_i cs n e opn hb1
      obtain ⟨hq, e1⟩ := cells_true he
      injection e1 with e1 e2; subst e1; subst e2
      have hlt : o < n := of_decide_eq_true (by simpa [Nat.blt_eq] using hq)
      obtain ⟨⟨x, hx⟩, hz, r', f'⟩ := r.store hb1 hl hlt (VR.int j y)
      exact ⟨_, _, φ, .inl (run_call_store hf hname hb hn hi hx hz), VR.undef, r', f'⟩
    · cases he
  · -- cas
    rename_i k b o k1 x j y
    obtain ⟨c, d, t, rfl, hc, hd, ht⟩ := hv.three_inv
    obtain ⟨l, hl, rfl⟩ := hc.ptr_inv
    obtain rfl := hd.int_inv
    obtain rfl := ht.int_inv
    split at he
    · rename_i cs n e opn hb1
      split at he
      · rename_i k' z hcs
        obtain ⟨a, ha, hr⟩ := r.cell hb1 hl hcs
        obtain rfl := hr.int_inv
        cases hq : (decide (k = k') && (decide (k1 = k) && (decide (j = k) && Nat.blt o n))) with
        | false => rw [hq] at he; cases he
        | true =>
          rw [hq] at he
          simp only [Bool.and_eq_true, decide_eq_true_eq] at hq
          obtain ⟨rfl, rfl, rfl, hlt⟩ := hq
          have hlt : o < n := of_decide_eq_true (by simpa [Nat.blt_eq] using hlt)
          obtain ⟨_, hz, r', f'⟩ := r.store hb1 hl hlt (VR.int _ y)
          cases hzx : eqI z x with
          | true =>
            rw [hzx] at he
            injection he with he; injection he with e1 e2; subst e1; subst e2
            have : z = x := by rw [eqI_iff] at hzx; simpa using hzx
            subst this
            exact ⟨_, _, φ, .inl (run_call_cas_hit hf hname hb hn _ hi ha hz), .bool _, r', f'⟩
          | false =>
            rw [hzx] at he
            injection he with he; injection he with e1 e2; subst e1; subst e2
            have : ¬ z = x := by rw [eqI_iff] at hzx; simpa using hzx
            exact ETurns.here r (.bool _) (run_call_cas_miss hf hname hb hn _ hi ha hz this)
      · cases he
    · cases he
  · -- add
    rename_i k b o j y
    obtain ⟨c, d, rfl, hc, hd⟩ := hv.two_inv
    obtain ⟨l, hl, rfl⟩ := hc.ptr_inv
    obtain rfl := hd.int_inv
    split at he
    · rename_i cs n e opn hb1
      split at he
      · rename_i k' z hcs
        obtain ⟨a, ha, hr⟩ := r.cell hb1 hl hcs
        obtain rfl := hr.int_inv
        obtain ⟨hq, e1⟩ := cells_true he
        injection e1 with e1 e2; subst e1; subst e2
        simp only [Bool.and_eq_true, decide_eq_true_eq] at hq
        obtain ⟨rfl, rfl, hlt⟩ := hq
        have hlt : o < n := of_decide_eq_true (by simpa [Nat.blt_eq] using hlt)
        obtain ⟨_, hz, r', f'⟩ := r.store hb1 hl hlt (VR.int _ (wrapA _ (z + y)))
        exact ⟨_, _, φ, .inl (run_call_add hf hname hb hn _ hi ha hz (by simp [Op.intArith, wrapA_eq])), .int _ _, r', f'⟩
      · cases he
    · cases he
  · exact hi.elim
  · exact hi.elim
  · -- none1
    rename_i b o rest
    injection he with he; injection he with e1 e2; subst e1; subst e2
    obtain ⟨c, m, e, hc, hm⟩ := hv.inv_cons
    obtain ⟨l, hl, rfl⟩ := hc.ptr_inv
    obtain ⟨mk, hi⟩ := hi
    have h0 : cargs[0]? = some (.pointer (some ⟨l.blk, l.dlt + o, none⟩)) := by rw [← Array.getElem?_toList, e]; rfl
    refine ETurns.here r VR.undef ?_
    rw [run_callFunc_extern hf hname hb hn hi]
    have : Extern.Race.at_ cargs = pure ⟨l.blk, l.dlt + o, none⟩ := by unfold Extern.Race.at_; rw [h0]
    unfold Extern.Race.marked
    rw [this]
    rfl
  · -- none0
    injection he with he; injection he with e1 e2; subst e1; subst e2
    obtain ⟨mk, hi⟩ := hi
    refine ETurns.here r VR.undef ?_
    rw [run_callFunc_extern hf hname hb hn hi]
    rfl
  · cases he

end Go.Abs

namespace Go.Abs.F
open Go Go.Abs

/-! ### calls that are known beforehand: what they are handed is flat, what they read of memory are globals' flat cells, what they hand back is flat or a new row of flat cells -/

def flat : AV → Bool
  | .bool _ => true
  | .int _ _ => true
  | .str _ _ => true
  | _ => false

theorem flat_VR {φ ψ : Ren} {v : AV} {c : Value} (hf : flat v = true) (h : VR φ v c) : VR ψ v c := by
  cases h with
  | bool b => exact .bool b
  | int k n => exact .int k n
  | str n c s h1 h2 => exact .str n c s h1 h2
  | _ => cases hf

noncomputable def cellsAre (cs : T AV) (l : List AV) : Nat → Bool :=
  List.rec (motive := fun _ => Nat → Bool) (fun _ => true) (fun v _ ih i => andF (Option.rec (motive := fun _ => Bool) false (fun w => AV.beq w v) (rdT cs i)) (ih (Nat.succ i))) l
noncomputable def blkIs (n : Nat) (e : TypeId) (opn : Bool) (l : List AV) (x : Option AB) : Bool := match x with
  | some (.cells cs m e' o false) => andF (Nat.beq m n) (andF (Nat.beq e' e) (andF (Bool.rec (motive := fun _ => Bool) (notF o) o opn) (cellsAre cs l 0)))
  | _ => false

/-- A row of cells. -/
def rowB (n : Nat) (e : TypeId) (opn : Bool) (l : List AV) : AB := .cells (T.ofList .leaf 0 l) n e opn false

theorem cellsAre_ok {cs : T AV} : ∀ (l : List AV) (i : Nat), cellsAre cs l i = true → ∀ (j : Nat) (v : AV), l[j]? = some v → cs.get (i + j) = some v := by
  intro l
  induction l with
  | nil => intro i _ j v h; simp at h
  | cons x l ih =>
    intro i h j v hv
    replace h : andF (Option.rec (motive := fun _ => Bool) false (fun w => AV.beq w x) (rdT cs i)) (cellsAre cs l (i + 1)) = true := h
    rw [andF_eq, Bool.and_eq_true] at h
    cases j with
    | zero =>
      have e : x = v := by simpa using hv
      subst e
      rw [rdT_eq] at h
      cases hx : cs.get i with
      | none => rw [hx] at h; exact absurd h.1 (by simp)
      | some w =>
        rw [hx] at h
        have e : w = x := AV.beq_eq w x h.1
        rw [e]
    | succ j =>
      have := ih (i + 1) h.2 j v (by simpa using hv)
      rw [show i + 1 + j = i + (j + 1) by omega] at this
      exact this

theorem rowB_get {l : List AV} {k : Nat} {v : AV} (h : (T.ofList .leaf 0 l : T AV).get k = some v) : k < l.length ∧ l[k]? = some v := by
  rw [T.get_ofList] at h
  by_cases hk : k < l.length
  · rw [if_pos ⟨Nat.zero_le _, by omega⟩] at h
    exact ⟨hk, by simpa using h⟩
  · rw [if_neg (by omega), T.get_leaf] at h; cases h

/-- A block that is such a row may be called one. -/
theorem BR.row {φ ψ : Ren} {b : AB} {n : Nat} {e : TypeId} {opn : Bool} {l : List AV} (hf : l.all flat = true) (hl : l.length ≤ n) (h : blkIs n e opn l (some b) = true) {lc : Loc} {o : Obj} (hb : BR φ b lc o) : BR ψ (rowB n e opn l) lc o := by
  unfold blkIs at h
  split at h
  · rename_i cs m e' op hq
    injection hq with hq; subst hq
    simp only [andF_eq, Bool.and_eq_true] at h
    obtain ⟨h1, h2, h3, h4⟩ := h
    obtain rfl := Nat.eq_of_beq_eq_true h1
    obtain rfl := Nat.eq_of_beq_eq_true h2
    have hop : op = opn := by cases op <;> cases opn <;> first | rfl | cases h3
    subst hop
    obtain ⟨c, lo, hi, q1, q2, q3, q4, q5, q6⟩ := hb.cells_inv
    refine ⟨c, lo, hi, q1, q2, q3, q4, fun k v hv => ?_, q6⟩
    obtain ⟨k1, k2⟩ := rowB_get hv
    have := cellsAre_ok l 0 h4 k v k2
    rw [Nat.zero_add] at this
    obtain ⟨a1, cv, a2, a3⟩ := q5 k v this
    exact ⟨a1, cv, a2, flat_VR (List.all_eq_true.1 hf v (List.mem_of_getElem? k2)) a3⟩
  · cases h

theorem blkIs_inv {n : Nat} {e : TypeId} {opn : Bool} {l : List AV} {b : AB} (h : blkIs n e opn l (some b) = true) : ∃ cs, b = .cells cs n e opn false ∧ ∀ (j : Nat) (v : AV), l[j]? = some v → cs.get j = some v := by
  unfold blkIs at h
  split at h
  · rename_i cs m e' op hq
    injection hq with hq; subst hq
    simp only [andF_eq, Bool.and_eq_true] at h
    obtain ⟨h1, h2, h3, h4⟩ := h
    obtain rfl := Nat.eq_of_beq_eq_true h1
    obtain rfl := Nat.eq_of_beq_eq_true h2
    have hop : op = opn := by cases op <;> cases opn <;> first | rfl | cases h3
    subst hop
    exact ⟨cs, rfl, fun j v hv => by have := cellsAre_ok l 0 h4 j v hv; rwa [Nat.zero_add] at this⟩
  · cases h

/-- A row that is as it was. -/
theorem BR.kept {φ φ' : Ren} {n : Nat} {e : TypeId} {opn : Bool} {l : List AV} {b b' : AB} {lc : Loc} {o o' : Obj} (hf : l.all flat = true) (hl : l.length = n) (h : blkIs n e opn l (some b) = true)
    (h' : blkIs n e opn l (some b') = true) (hb : BR φ b lc o) (hb' : BR φ' b' lc o') : BR φ b lc o' := by
  obtain ⟨cs, rfl, h1⟩ := blkIs_inv h
  obtain ⟨cs', rfl, h1'⟩ := blkIs_inv h'
  obtain ⟨c, lo, hi, q1, q2, q3, q4, q5, q6⟩ := hb.cells_inv
  obtain ⟨c', lo', hi', p1, p2, p3, p4, p5, p6⟩ := hb'.cells_inv
  refine ⟨c', lo', hi', p1, p2, p3, p4, fun k v hv => ?_, p6⟩
  obtain ⟨hk, _⟩ := q5 k v hv
  have hlk : l[k]? = some l[k] := by simp [show k < l.length by omega]
  have e : l[k] = v := by have := h1 k _ hlk; rw [hv] at this; exact (Option.some.inj this).symm
  rw [e] at hlk
  obtain ⟨_, cv, a2, a3⟩ := p5 k v (h1' k v hlk)
  exact ⟨hk, cv, a2, flat_VR (List.all_eq_true.1 hf v (List.mem_of_getElem? hlk)) a3⟩

/-- The globals that a known call reads: one row, or none. -/
structure GRow where
  g : Nat
  n : Nat
  e : TypeId
  l : List AV

def gHeap : List GRow → T AB
  | [] => .leaf
  | x :: m => (gHeap m).set x.g (rowB x.n x.e false x.l)
noncomputable def gIn (h : T AB) : List GRow → Bool
  | [] => true
  | x :: m => andF (blkIs x.n x.e false x.l (rdT h x.g)) (gIn h m)
def gOk (G : Nat) : List GRow → Bool
  | [] => true
  | x :: m => x.l.all flat && (decide (x.l.length = x.n) && (decide (x.g < G) && gOk G m))

theorem gHeap_get {gs : List GRow} {i : Nat} {b : AB} (h : (gHeap gs).get i = some b) : ∃ x ∈ gs, x.g = i ∧ b = rowB x.n x.e false x.l := by
  induction gs with
  | nil => rw [gHeap, T.get_leaf] at h; cases h
  | cons x m ih =>
    rw [gHeap, T.get_set] at h
    by_cases e : i = x.g
    · rw [if_pos e] at h; injection h with h; exact ⟨x, List.mem_cons_self, e.symm, h.symm⟩
    · rw [if_neg e] at h
      obtain ⟨y, h1, h2, h3⟩ := ih h
      exact ⟨y, List.mem_cons_of_mem _ h1, h2, h3⟩
theorem gHeap_has {gs : List GRow} {x : GRow} (h : x ∈ gs) : ∃ b, (gHeap gs).get x.g = some b := by
  induction gs with
  | nil => cases h
  | cons y m ih =>
    rw [gHeap, T.get_set]
    by_cases e : x.g = y.g
    · rw [if_pos e]; exact ⟨_, rfl⟩
    · rw [if_neg e]
      rcases List.mem_cons.1 h with rfl | h
      · exact absurd rfl e
      · exact ih h
theorem gIn_mem {h : T AB} {gs : List GRow} (hi : gIn h gs = true) {x : GRow} (hx : x ∈ gs) : ∃ b, h.get x.g = some b ∧ blkIs x.n x.e false x.l (some b) = true := by
  induction gs with
  | nil => cases hx
  | cons y m ih =>
    unfold gIn at hi
    rw [andF_eq, Bool.and_eq_true] at hi
    rcases List.mem_cons.1 hx with rfl | hx
    · rw [rdT_eq] at hi
      cases hb : h.get x.g with
      | none => rw [hb] at hi; exact absurd hi.1 (by simp [blkIs])
      | some b => rw [hb] at hi; exact ⟨b, rfl, hi.1⟩
    · exact ih hi.2 hx
theorem gOk_mem {G : Nat} {gs : List GRow} (hi : gOk G gs = true) {x : GRow} (hx : x ∈ gs) : x.l.all flat = true ∧ x.l.length = x.n ∧ x.g < G := by
  induction gs with
  | nil => cases hx
  | cons y m ih =>
    unfold gOk at hi
    simp only [Bool.and_eq_true, decide_eq_true_eq] at hi
    rcases List.mem_cons.1 hx with rfl | hx
    · exact ⟨hi.1, hi.2.1, hi.2.2.1⟩
    · exact ih hi.2.2.2 hx

section
variable {C : Cfg} {gs : List GRow} {h : T AB} {nx nx0 : Nat} {φ : Ren} {w : World}

/-- The renaming cut down to the globals. -/
def cutR (G : Nat) (φ : Ren) : Ren := fun i => if i < G then φ i else none

theorem gRel (hok : gOk C.G gs = true) (hin : gIn h gs = true) (hn : C.G ≤ nx0) (r : Rel h nx φ w) : Rel (gHeap gs) nx0 (cutR C.G φ) w where
  dom := fun i hi => by unfold cutR; rw [if_neg (by omega)]
  blk := fun i b hb => by
    obtain ⟨x, hx, rfl, rfl⟩ := gHeap_get hb
    obtain ⟨b', h1, h2⟩ := gIn_mem hin hx
    obtain ⟨k1, k2, k3⟩ := gOk_mem hok hx
    obtain ⟨l, o, q1, q2, q3⟩ := r.blk _ _ h1
    exact ⟨l, o, by unfold cutR; rw [if_pos k3]; exact q1, q2, BR.row k1 (Nat.le_of_eq k2) h2 q3⟩
  inj := fun i j bi bj li lj hi hj ei ej e => by
    obtain ⟨x, hx, rfl, rfl⟩ := gHeap_get hi
    obtain ⟨y, hy, rfl, rfl⟩ := gHeap_get hj
    obtain ⟨b1, h1, _⟩ := gIn_mem hin hx
    obtain ⟨b2, h2, _⟩ := gIn_mem hin hy
    obtain ⟨_, _, k3⟩ := gOk_mem hok hx
    obtain ⟨_, _, k4⟩ := gOk_mem hok hy
    unfold cutR at ei ej
    rw [if_pos k3] at ei
    rw [if_pos k4] at ej
    exact r.inj _ _ _ _ _ _ h1 h2 ei ej e

theorem gOwns (hok : gOk C.G gs = true) (hin : gIn h gs = true) {b : Nat} (ho : Owns (gHeap gs) (cutR C.G φ) b) : ∃ x ∈ gs, ∃ l bx, φ x.g = some l ∧ l.blk = b ∧ h.get x.g = some bx := by
  obtain ⟨i, bi, li, h1, h2, h3⟩ := ho
  obtain ⟨x, hx, rfl, _⟩ := gHeap_get h1
  obtain ⟨b', k1, _⟩ := gIn_mem hin hx
  obtain ⟨_, _, k3⟩ := gOk_mem hok hx
  unfold cutR at h2
  rw [if_pos k3] at h2
  exact ⟨x, hx, li, b', h2, h3, k1⟩

theorem gGL (gl : GL C.G φ) : GL C.G (cutR C.G φ) := fun g hg => by
  obtain ⟨sz, e⟩ := gl g hg
  exact ⟨sz, by unfold cutR; rw [if_pos hg]; exact e⟩

/-- Behind the call: the globals' rows as before, all else untouched. -/
theorem g_back (hok : gOk C.G gs = true) (hin : gIn h gs = true) {h' : T AB} {nx' : Nat} {φ' : Ren} {w' : World} (r : Rel h nx φ w) (hin' : gIn h' gs = true)
    (r' : Rel h' nx' φ' w') (f' : Fr (gHeap gs) nx0 (cutR C.G φ) w h' nx' φ' w') (hn : C.G ≤ nx0) : Rel h nx φ w' ∧ Fr h nx φ w h nx φ w' := by
  have hsame : ∀ i b, h.get i = some b → (∀ x ∈ gs, x.g ≠ i) → ∀ l, φ i = some l → w'.heap[l.blk]? = w.heap[l.blk]? := by
    intro i b hb hne l hl
    refine f'.old _ (r.lt hb hl) (fun ho => ?_)
    obtain ⟨x, hx, lx, bx, e1, e2, e3⟩ := gOwns hok hin ho
    exact hne x hx (r.inj _ _ _ _ _ _ e3 hb e1 hl e2)
  refine ⟨⟨r.dom, fun i b hb => ?_, r.inj⟩, ⟨fun _ _ => rfl, Nat.le_refl _, f'.size, fun b hb ho => ?_, fun b ho _ => ho, f'.os, f'.tape, f'.output⟩⟩
  · obtain ⟨l, o, h1, h2, h3⟩ := r.blk i b hb
    by_cases hg : ∃ x ∈ gs, x.g = i
    · obtain ⟨x, hx, rfl⟩ := hg
      obtain ⟨k1, k2, k3⟩ := gOk_mem hok hx
      obtain ⟨b1, q1, q2⟩ := gIn_mem hin hx
      obtain ⟨b2, q3, q4⟩ := gIn_mem hin' hx
      obtain ⟨l2, o2, p1, p2, p3⟩ := r'.blk _ _ q3
      have hl2 : φ' x.g = some l := by
        rw [f'.ren _ (by omega)]; unfold cutR; rw [if_pos k3]; exact h1
      rw [hl2] at p1; cases p1
      refine ⟨l, o2, h1, p2, ?_⟩
      rw [hb] at q1; cases q1
      exact BR.kept k1 k2 q2 q4 h3 p3
    · exact ⟨l, o, h1, by rw [hsame i b hb (fun x hx e => hg ⟨x, hx, e⟩) l h1]; exact h2, h3⟩
  · refine f'.old b hb (fun ho' => ho ?_)
    obtain ⟨x, hx, lx, bx, e1, e2, e3⟩ := gOwns hok hin ho'
    exact ⟨_, _, _, e3, e1, e2⟩

/-- A known call: which, with what; what it comes to: a flat value, or a new row. -/
structure Known where
  f : FuncId
  args : List AV
  gs : List GRow
  nx0 : Nat
  v : AV
  row : Option (Nat × TypeId × List AV)

noncomputable def beqs (l : List AV) (m : List AV) : Bool :=
  List.rec (motive := fun _ => List AV → Bool) (fun m => List.rec (motive := fun _ => Bool) true (fun _ _ _ => false) m)
    (fun x _ ih m => List.rec (motive := fun _ => Bool) false (fun y t _ => andF (AV.beq x y) (ih t)) m) l m
theorem beqs_ok : ∀ (l m : List AV), beqs l m = true → l = m := by
  intro l
  induction l with
  | nil => intro m h; cases m with
    | nil => rfl
    | cons => cases h
  | cons x l ih =>
    intro m h
    cases m with
    | nil => cases h
    | cons y t =>
      replace h : andF (AV.beq x y) (beqs l t) = true := h
      rw [andF_eq, Bool.and_eq_true] at h
      rw [AV.beq_eq _ _ h.1, ih t h.2]

noncomputable def hpOf (r : R) : T AB := R.rec (motive := fun _ => T AB) .leaf (fun _ h _ => h) (fun _ _ _ _ _ => .leaf) r

/-- What is reckoned of a known call, once. -/
noncomputable def Known.chk (K : Known) (r : R) : Bool :=
  R.rec (motive := fun _ => Bool) false (fun v h _ => andF (gIn h K.gs) (match K.row with
    | none => AV.beq v K.v
    | some (b, e, l) => andF (AV.beq v (.slice b 0 l.length l.length)) (blkIs l.length e false l (rdT h b)))) (fun _ _ _ _ _ => false) r

/-- What is asked of it. -/
def Known.ok (G : Nat) (K : Known) : Bool :=
  decide (G ≤ K.nx0) && (gOk G K.gs && (K.args.all flat && match K.row with
    | none => flat K.v
    | some (b, _, l) => decide (K.nx0 ≤ b) && l.all flat))

noncomputable def Known.rc (K : Known) : RC := fun f args h nx =>
  Bool.rec (motive := fun _ => Option (AV × T AB × Nat)) none (match K.row with
    | none => some (K.v, h, nx)
    | some (_, e, l) => some (.slice nx 0 l.length l.length, wrT h nx (rowB l.length e false l), Nat.succ nx)) (andF (Nat.beq f K.f) (andF (beqs args K.args) (gIn h K.gs)))

theorem known_ok {K : Known} {M : RC} {n : Nat} (hrc : RcOk C.P C.G (rcOf (fu C M n))) (hok : K.ok C.G = true) (hchk : K.chk (run C M n K.f K.args (gHeap K.gs) K.nx0) = true) : RcOk C.P C.G K.rc := by
  intro f args h nx v h' nx' φ w cargs he hv r gl
  unfold Known.rc at he
  rw [brec] at he
  cases hc : andF (Nat.beq f K.f) (andF (beqs args K.args) (gIn h K.gs)) with
  | false => rw [hc] at he; cases he
  | true =>
    rw [hc] at he
    simp only [andF_eq, Bool.and_eq_true] at hc
    obtain ⟨h1, h2, hin⟩ := hc
    obtain rfl := Nat.eq_of_beq_eq_true h1
    obtain rfl := beqs_ok _ _ h2
    unfold Known.ok at hok
    simp only [Bool.and_eq_true, decide_eq_true_eq] at hok
    obtain ⟨hn, hg, hfa, hrow⟩ := hok
    cases hr : run C M n K.f K.args (gHeap K.gs) K.nx0 with
    | no => rw [hr] at hchk; cases hchk
    | code => rw [hr] at hchk; cases hchk
    | call v1 h1 nx1 =>
      rw [hr] at hchk
      have hv0 : VRs (cutR C.G φ) K.args cargs.toList := ⟨hv.1, fun i v c e1 e2 => flat_VR (List.all_eq_true.1 hfa v (List.mem_of_getElem? e1)) (hv.2 i v c e1 e2)⟩
      refine (hrc K.f K.args (gHeap K.gs) K.nx0 v1 h1 nx1 (cutR C.G φ) w cargs (rcOf_call hr) hv0 (gRel hg hin hn r) (gGL gl)).mono ?_
      rintro e w' ⟨cv, φ', rfl, hvr, r', f'⟩
      replace hchk : andF (gIn h1 K.gs) (match K.row with
        | none => AV.beq v1 K.v
        | some (b, e, l) => andF (AV.beq v1 (.slice b 0 l.length l.length)) (blkIs l.length e false l (rdT h1 b))) = true := hchk
      rw [andF_eq, Bool.and_eq_true] at hchk
      obtain ⟨hin', hchk⟩ := hchk
      obtain ⟨rb, fb⟩ := g_back hg hin r hin' r' f' hn
      cases hrw : K.row with
      | none =>
        simp only [hrw] at he hrow hchk
        injection he with he; injection he with e1 he; injection he with e2 e3
        subst e1; subst e2; subst e3
        have hveq : v1 = K.v := AV.beq_eq _ _ hchk
        exact ⟨cv, φ, rfl, flat_VR hrow (hveq ▸ hvr), rb, fb⟩
      | some q =>
        obtain ⟨b, e, l⟩ := q
        simp only [hrw] at he hrow hchk
        injection he with he; injection he with e1 he; injection he with e2 e3
        subst e1; subst e2; subst e3
        rw [andF_eq, Bool.and_eq_true] at hchk
        rw [Bool.and_eq_true, decide_eq_true_eq] at hrow
        obtain ⟨hnb, hfl⟩ := hrow
        have hveq := AV.beq_eq _ _ hchk.1
        subst hveq
        have hblk := hchk.2
        rw [rdT_eq] at hblk
        cases hb : h1.get b with
        | none => rw [hb] at hblk; exact absurd hblk (by simp [blkIs])
        | some bb =>
          rw [hb] at hblk
          obtain ⟨lc, o, p1, p2, p3⟩ := r'.blk b bb hb
          have hnone : φ nx = none := r.dom nx (Nat.le_refl _)
          have hle : φ.le (φ.upd nx lc) := Ren.le_upd lc hnone
          have hfar : ∀ i bi li, h.get i = some bi → φ i = some li → li.blk ≠ lc.blk := by
            intro i bi li hi hl e
            have hlt := r.lt hi hl
            have ho : Owns h1 φ' lc.blk := ⟨b, bb, lc, hb, p1, rfl⟩
            rw [← e] at ho
            obtain ⟨x, hx, lx, bx, q1, q2, q3⟩ := gOwns hg hin (f'.own _ ho hlt)
            obtain ⟨k1, k2, k3⟩ := gOk_mem hg hx
            obtain ⟨b2, q4, _⟩ := gIn_mem hin' hx
            have hx' : φ' x.g = some lx := by rw [f'.ren _ (by omega)]; unfold cutR; rw [if_pos k3]; exact q1
            have := r'.inj x.g b _ _ _ _ q4 hb hx' p1 (by rw [q2, e])
            omega
          have hrow' : BR (φ.upd nx lc) (rowB l.length e false l) lc o := BR.row hfl (Nat.le_refl _) hblk p3
          rw [wrT_eq]
          refine ⟨cv, φ.upd nx lc, rfl, ?_, ⟨fun i hi => ?_, fun i bi hi => ?_, fun i j bi bj li lj hi hj ei ej ee => ?_⟩, ⟨fun i hi => ?_, Nat.le_succ _, fb.size, fun k hk ho => ?_, fun k ho hk => ?_, fb.os, fb.tape, fb.output⟩⟩
          · cases hvr with
            | slice b o len cap l2 hl2 =>
              rw [p1] at hl2; cases hl2
              exact .slice nx 0 _ _ lc (Ren.upd_self _ _ _)
          · have hi' : nx + 1 ≤ i := hi
            rw [Ren.upd_ne _ _ (by omega)]; exact r.dom i (by omega)
          · rw [T.get_set] at hi
            by_cases ei : i = nx
            · subst ei
              simp at hi; subst hi
              exact ⟨lc, o, Ren.upd_self _ _ _, p2, hrow'⟩
            · rw [if_neg ei] at hi
              obtain ⟨li, oi, q1, q2, q3⟩ := rb.blk i bi hi
              exact ⟨li, oi, by rw [Ren.upd_ne _ _ ei]; exact q1, q2, q3.mono hle⟩
          · rw [T.get_set] at hi hj
            by_cases e1 : i = nx
            · by_cases e2 : j = nx
              · omega
              · subst e1
                rw [if_neg e2] at hj
                rw [Ren.upd_self] at ei; cases ei
                rw [Ren.upd_ne _ _ e2] at ej
                exact absurd ee.symm (hfar j _ _ hj ej)
            · rw [if_neg e1] at hi
              rw [Ren.upd_ne _ _ e1] at ei
              by_cases e2 : j = nx
              · subst e2
                rw [Ren.upd_self] at ej; cases ej
                exact absurd ee (hfar i _ _ hi ei)
              · rw [if_neg e2] at hj
                rw [Ren.upd_ne _ _ e2] at ej
                exact r.inj i j _ _ _ _ hi hj ei ej ee
          · exact Ren.upd_ne _ _ (by omega)
          · exact fb.old k hk ho
          · obtain ⟨i, bi, li, q1, q2, rfl⟩ := ho
            rw [T.get_set] at q1
            by_cases ei : i = nx
            · subst ei
              rw [Ren.upd_self] at q2; cases q2
              have ho : Owns h1 φ' lc.blk := ⟨b, bb, lc, hb, p1, rfl⟩
              obtain ⟨x, hx, lx, bx, z1, z2, z3⟩ := gOwns hg hin (f'.own _ ho hk)
              exact ⟨x.g, bx, lx, z3, z1, z2⟩
            · rw [if_neg ei] at q1
              rw [Ren.upd_ne _ _ ei] at q2
              exact ⟨i, bi, li, q1, q2, rfl⟩

noncomputable def orRc (A B : RC) : RC := fun f args h nx => Option.rec (motive := fun _ => Option (AV × T AB × Nat)) (B f args h nx) some (A f args h nx)
theorem orRc_ok {P : Program} {G : Nat} {A B : RC} (ha : RcOk P G A) (hb : RcOk P G B) : RcOk P G (orRc A B) := by
  intro f args h nx v h' nx' φ w cargs he hv r gl
  unfold orRc at he
  cases hA : A f args h nx with
  | none => rw [hA] at he; exact hb f args h nx v h' nx' φ w cargs he hv r gl
  | some p => rw [hA] at he; injection he with he; subst he; exact ha f args h nx v h' nx' φ w cargs hA hv r gl
end
end Go.Abs.F

namespace Go.Abs.F
open Go Go.Abs

/-- An int's value. -/
def intV : AV → Value
  | .int k n => .int k n
  | .bool b => .bool b
  | _ => .nilFunc
def isInt : AV → Bool
  | .int _ _ => true
  | .bool _ => true
  | _ => false
theorem isInt_flat {v : AV} (h : isInt v = true) : flat v = true := by cases v <;> first | rfl | cases h
theorem intV_VR {φ : Ren} {v : AV} (h : isInt v = true) : VR φ v (intV v) := by
  cases v with
  | int k n => exact .int k n
  | bool b => exact .bool b
  | _ => cases h
theorem VR_intV {φ : Ren} {v : AV} {c : Value} (h : isInt v = true) (hr : VR φ v c) : c = intV v := by
  cases v with
  | int k n => exact hr.int_inv
  | bool b => exact hr.bool_inv
  | _ => cases h

/-- The world holds these rows. -/
def HasRows (W : World) (gs : List GRow) : Prop := ∀ x ∈ gs, W.heap[x.g]? = some (.cells (x.l.map intV).toArray x.e (0, 0))

section
variable {C : Cfg} {gs : List GRow}

/-- All that was there is as it was. -/
def Stayed (W W' : World) : Prop := W'.os = W.os ∧ W'.output = W.output ∧ W.heap.size ≤ W'.heap.size ∧ ∀ b, b < W.heap.size → W'.heap[b]? = W.heap[b]?

theorem Stayed.kept {W W' : World} (h : Stayed W W') (may : MemPlace → Prop) : W.keptBut W' may := by
  refine ⟨h.1, h.2.1, fun i hi => ?_⟩
  rw [h.2.2.2 i hi]
  cases hw : W.heap[i]? with
  | none => rfl
  | some o =>
    cases o with
    | cells c t fr => exact ⟨rfl, rfl, rfl, fun _ _ => rfl⟩
    | map es clock => exact Or.inr ⟨rfl, rfl⟩
    | _ => rfl

theorem closed_holds {W : World} {f : FuncId} {args : List AV} {cargs : Array Value} {rc : RC} (hrc : RcOk C.P C.G rc) (he : rc f args (gHeap gs) C.G = some (.bool true, gHeap gs, C.G))
    (hok : gOk C.G gs = true) (hint : (gs.all fun x => x.l.all isInt) = true) (hv : ∀ φ, VRs φ args cargs.toList) (hW : HasRows W gs) :
    Calls C.P f cargs W fun e W' => e = .returned (.bool true) ∧ Stayed W W' := by
  let φ : Ren := fun g => if g < C.G then some ⟨g, 0, match gs.find? (·.g == g) with | some x => x.n | none => 0⟩ else none
  have hφ : ∀ x ∈ gs, (∀ y ∈ gs, y.g = x.g → y.n = x.n) → φ x.g = some ⟨x.g, 0, x.n⟩ := by
    intro x hx hu
    have hlt := (gOk_mem hok hx).2.2
    show (if x.g < C.G then _ else _) = _
    rw [if_pos hlt]
    cases hf : gs.find? (·.g == x.g) with
    | none =>
      have := List.find?_eq_none.1 hf x hx
      simp at this
    | some y =>
      have h1 := List.find?_some hf
      have h2 := List.mem_of_find?_eq_some hf
      show some (⟨x.g, 0, y.n⟩ : Loc) = _
      rw [hu y h2 (by simpa using h1)]
  have hsize : ∀ x ∈ gs, (x.l.map intV).toArray.size = x.n := fun x hx => by simpa using (gOk_mem hok hx).2.1
  have huniq : ∀ x ∈ gs, ∀ y ∈ gs, y.g = x.g → y.n = x.n ∧ y.e = x.e ∧ (y.l.map intV) = (x.l.map intV) := by
    intro x hx y hy e
    have h1 := hW x hx
    have h2 := hW y hy
    rw [e, h1] at h2
    injection h2 with h2; injection h2 with h2 h3 h4
    have h5 : (x.l.map intV) = (y.l.map intV) := by simpa using h2
    refine ⟨?_, h3.symm, h5.symm⟩
    have := hsize x hx
    have := hsize y hy
    rw [← h5] at this
    omega
  have hφ' : ∀ x ∈ gs, φ x.g = some ⟨x.g, 0, x.n⟩ := fun x hx => hφ x hx (fun y hy e => (huniq x hx y hy e).1)
  have hr : Rel (gHeap gs) C.G φ W := by
    refine ⟨fun i hi => ?_, fun i b hb => ?_, fun i j bi bj li lj hi hj ei ej e => ?_⟩
    · show (if i < C.G then _ else _) = none
      rw [if_neg (by omega)]
    · obtain ⟨x, hx, rfl, rfl⟩ := gHeap_get hb
      have hint' := List.all_eq_true.1 hint x hx
      refine ⟨_, _, hφ' x hx, hW x hx, ?_⟩
      refine ⟨_, 0, 0, rfl, hsize x hx, ?_, fun _ => ⟨rfl, rfl⟩, fun k v hv => ?_, fun _ => ⟨fun k _ hk => by omega, fun _ => ⟨rfl, rfl⟩⟩⟩
      · simp
      · obtain ⟨h1, h2⟩ := rowB_get hv
        have hn := (gOk_mem hok hx).2.1
        refine ⟨by omega, intV v, by simp [h2], intV_VR (List.all_eq_true.1 hint' v (List.mem_of_getElem? h2))⟩
    · obtain ⟨x, hx, rfl, _⟩ := gHeap_get hi
      obtain ⟨y, hy, rfl, _⟩ := gHeap_get hj
      rw [hφ' x hx] at ei
      rw [hφ' y hy] at ej
      cases ei; cases ej
      exact e
  have gl : GL C.G φ := fun g hg => ⟨_, by show (if g < C.G then _ else _) = _; rw [if_pos hg]⟩
  refine callsIn_wide.1 ((hrc f args (gHeap gs) C.G _ _ _ φ W cargs he (hv φ) hr gl).mono ?_)
  rintro e W' ⟨cv, φ', rfl, hcv, r', f'⟩
  refine ⟨by rw [hcv.bool_inv], f'.os, f'.output, f'.size, fun b hb => ?_⟩
  by_cases ho : Owns (gHeap gs) φ b
  · obtain ⟨i, bi, li, h1, h2, h3⟩ := ho
    obtain ⟨x, hx, rfl, rfl⟩ := gHeap_get h1
    rw [hφ' x hx] at h2; cases h2
    have hbg : x.g = b := h3
    subst hbg
    have hint' := List.all_eq_true.1 hint x hx
    obtain ⟨l, o, q1, q2, q3⟩ := r'.blk _ _ h1
    rw [f'.ren _ (gOk_mem hok hx).2.2, hφ' x hx] at q1; cases q1
    rw [hW x hx]
    refine q2.trans ?_
    obtain ⟨c, lo, hi, rfl, p2, p3, p4, p5, p6⟩ := q3.cells_inv
    obtain ⟨rfl, rfl⟩ := (p6 rfl).2 rfl
    have hc : c = (x.l.map intV).toArray := by
      apply Array.ext_getElem?
      intro k
      by_cases hk : k < x.l.length
      · have hl : (T.ofList .leaf 0 x.l : T AV).get k = some x.l[k] := by
          rw [T.get_ofList, if_pos ⟨Nat.zero_le _, by omega⟩]; simp [hk]
        obtain ⟨_, cv2, a2, a3⟩ := p5 k _ hl
        have e2 := VR_intV (List.all_eq_true.1 hint' _ (List.getElem_mem hk)) a3
        rw [Nat.zero_add] at a2
        rw [a2, e2]; simp [hk]
      · have hn := (gOk_mem hok hx).2.1
        have p2' : c.size = x.n := p2
        rw [Array.getElem?_eq_none (by omega), Array.getElem?_eq_none (by simp; omega)]
    rw [hc]
  · exact f'.old b hb ho

end

/-- 'returnsInHanded_of_change_and', the world's shape besides. -/
theorem handed_and_shaped {H : Type} {enc : TypeId × Value → H} {a : Assume} {C : Checked} {os : Os} {f : FuncId} {fn : Func} {s : ChangeSpec} {conds : List PathCond} {apart fresh handsOn again : Bool} {X : World → Array Value → Prop}
    (hX : ∀ (w w' : World) (args : Array Value), w.heap = w'.heap → X w args → X w' args)
    (own : ownKnob C.prog.godebug = none) (started : os.Started) (noInit : C.prog.inits.idxOf? f = none) (hfn : C.prog.funcs[f]? = some fn)
    (witness : ∃ (w : World) (tape : Tape) (i : Input), w.os = os ∧ (w.forCall tape i).Shaped C.prog ∧ i.vars = [] ∧ Input.okWide C.prog (w.forCall tape i) .any w.heap.size f i ∧
      ((s.pre enc C.prog fn conds apart (w.forCall tape i).memory i.args ∧ X (w.forCall tape i).memory i.args) ∧ sizedMet enc C.prog fn (OpenSpec.ofChange s) apart (w.forCall tape i).memory i.args) ∧ a.holds C.prog (lone (Frame.enter C.prog f i.args .normal) [] (w.forCall tape i)))
    (contract : ∀ (W : World) (base : Nat) (args : Array Value) (ds gs : List (DataW H)) (before : List MemPlace),
      (∀ (j : Nat) t v, fn.params[j]? = some t → args[j]? = some v → Value.okWide C.prog W .any base t v) →
      DataW.Whole enc C.prog fn.params.toList s.vars apart W args.toList ds gs before →
      conds.all (PathCond.test C.prog ⟨fn.params.toList, ds, s.plain.varTypes C.prog, gs⟩) = true →
      X W args → W.ShapedOpen C.prog →
      Calls C.prog f args W fun e W' => ∃ v, e = .returned v ∧ s.post enc C.prog fn apart fresh handsOn again W args v W') :
    ReturnsInHanded a C os f .any (fun w args => (s.pre enc C.prog fn conds apart w args ∧ X w args) ∧ sizedMet enc C.prog fn (OpenSpec.ofChange s) apart w args) (s.post enc C.prog fn apart fresh handsOn again) := by
  refine returnsInHanded_of_calls own started noInit witness ?_
  intro w tape i _ hsh _ hok hpre hholds
  obtain ⟨_, _, _, fn', hfn', _, _, _, _, hval⟩ := hok
  have e : fn' = fn := Option.some.inj (hfn'.symm.trans hfn)
  subst e
  obtain ⟨⟨⟨ds, gs, before, hw, hc⟩, hx⟩, hz⟩ := hpre
  have hw' := DataW.Whole.of_heap (w' := w.forCall tape i) (by rfl) hw
  refine (contract (w.forCall tape i) w.heap.size i.args ds gs before hval hw' hc (hX _ _ _ (by rfl) hx) hsh).mono fun e W' ⟨v, he, hp⟩ => ?_
  subst he
  exact ChangeSpec.post_blind hp

end Go.Abs.F
