/-
  THE EVALUATOR: its quiet operations are what the model does. (The conditions stand in the row and the card that are given.) Written by an AI agent for this claim.
-/
import Derived.Test.YtbbpbklbmoeocaaGreatDoorEvA
import Derived.CallsIn
import Derived.OrdersIn
import Derived.Laws.Strings
import Derived.Laws.StructEq
import Derived.Laws.BytesString
set_option linter.unusedVariables false
set_option linter.unusedSimpArgs false
namespace Go.Abs

variable {P : Program} {h : T AB} {nx : Nat} {φ : Ren} {w : World}

theorem run_typeInfo (t : TypeId) (i : TypeInfo) (hi : P.info? t = some i) : (typeInfo t).run P w = .ok i w := by
  simp [typeInfo, hi]
theorem run_underlying (t : TypeId) (d : TypeDesc) (hd : P.underlying t = some d) : (underlying t).run P w = .ok d w := by
  simp [underlying, hd]
theorem run_sizeOf (t : TypeId) (n : Nat) (hs : tsize P t = some n) : (sizeOf t).run P w = .ok n w := by
  unfold tsize at hs
  cases hi : P.info? t with
  | none => simp [hi] at hs
  | some i => simp [hi] at hs; simp [sizeOf, run_typeInfo _ _ hi, hs]
theorem run_isAgg (t : TypeId) (d : TypeDesc) (hd : P.underlying t = some d) : (isAgg t).run P w = .ok (isAggD d) w := by
  simp only [isAgg, Sem.run_bind, run_underlying _ _ hd, Result.andThen_ok]
  cases d <;> rfl

theorem cellsOf_tsize {t : TypeId} {n : Nat} (hs : tsize P t = some n) : P.cellsOf t = n := by
  unfold tsize at hs
  simp [Program.cellsOf, hs]

theorem cell_of_isSome {a : Addr} {v : Value} (hc : w.cell? a = some v) (m : Mode) : (load a m).run P w = .ok v w := by simp [hc]

theorem Addr.add_none (b o n : Nat) : (⟨b, o, none⟩ : Addr).add n = ⟨b, o + n, none⟩ := by
  unfold Addr.add
  split
  · subst_vars; rfl
  · rfl

/-- Cells that are read one by one. -/
theorem run_loadCellsFrom (b o : Nat) : ∀ (n i : Nat) (acc vs : List Value), vs.length = n → (∀ k v, vs[k]? = some v → w.cell? ⟨b, o + (i + k), none⟩ = some v) →
    (loadCellsFrom ⟨b, o, none⟩ i n acc.toArray).run P w = .ok (acc ++ vs).toArray w := by
  intro n
  induction n with
  | zero => intro i acc vs hl _; cases vs <;> simp_all [loadCellsFrom]
  | succ n ih =>
    intro i acc vs hl hv
    cases vs with
    | nil => simp at hl
    | cons v vs =>
      have h0 := hv 0 v (by simp)
      simp only [loadCellsFrom, Sem.run_bind, Addr.add_none]
      rw [show o + i = o + (i + 0) by omega, cell_of_isSome h0]
      simp only [Result.andThen_ok, List.push_toArray]
      rw [ih (i + 1) (acc ++ [v]) vs (by simpa using hl) (fun k u hk => by have := hv (k + 1) u (by simpa using hk); rwa [show o + (i + 1 + k) = o + (i + (k + 1)) by omega])]
      simp

theorem run_loadCells (b o : Nat) (vs : List Value) (hv : ∀ k v, vs[k]? = some v → w.cell? ⟨b, o + k, none⟩ = some v) :
    (loadCells ⟨b, o, none⟩ vs.length).run P w = .ok vs.toArray w := by
  have := run_loadCellsFrom (P := P) (w := w) b o vs.length 0 [] vs rfl (fun k v hk => by rw [Nat.zero_add]; exact hv k v hk)
  simpa [loadCells] using this

theorem getN_len {cs : T AV} : ∀ (n o : Nat) (l : List AV), getN cs o n = some l → l.length = n := by
  intro n
  induction n with
  | zero => intro o l hg; simp [getN] at hg; subst hg; rfl
  | succ n ih =>
    intro o l hg
    simp only [getN] at hg
    split at hg
    · split at hg
      · cases hg; rename_i hl; simp [ih _ _ hl]
      · cases hg
    · cases hg

theorem getN_get {cs : T AV} : ∀ (n o : Nat) (l : List AV), getN cs o n = some l → ∀ k v, l[k]? = some v → cs.get (o + k) = some v := by
  intro n
  induction n with
  | zero => intro o l hg k v hk; simp [getN] at hg; subst hg; simp at hk
  | succ n ih =>
    intro o l hg k v hk
    simp only [getN] at hg
    split at hg
    · rename_i v0 hv0
      split at hg
      · rename_i l' hl
        cases hg
        cases k with
        | zero => simp at hk; subst hk; exact hv0
        | succ k => simp at hk; have := ih _ _ hl k v hk; rwa [show o + (k + 1) = o + 1 + k by omega]
      · cases hg
    · cases hg

/-- So many cells of a tracked block, as they are. -/
theorem Rel.cells (r : Rel h nx φ w) {b : Nat} {cs : T AV} {n : Nat} {elem : TypeId} {opn fz : Bool} (hb : h.get b = some (.cells cs n elem opn fz)) {l : Loc} (hl : φ b = some l)
    {o m : Nat} {vs : List AV} (hg : getN cs o m = some vs) : ∃ cvs : List Value, VRs φ vs cvs ∧ ∀ k c, cvs[k]? = some c → w.cell? ⟨l.blk, l.dlt + (o + k), none⟩ = some c := by
  induction m generalizing o vs with
  | zero => simp [getN] at hg; subst hg; exact ⟨[], VRs.nil, fun k c hk => by simp at hk⟩
  | succ m ih =>
    simp only [getN] at hg
    split at hg
    · rename_i v0 hv0
      split at hg
      · rename_i l' hl'
        cases hg
        obtain ⟨cvs, h1, h2⟩ := ih hl'
        obtain ⟨c0, hc0, hr0⟩ := r.cell hb hl hv0
        refine ⟨c0 :: cvs, VRs.cons hr0 h1, fun k c hk => ?_⟩
        cases k with
        | zero => simp at hk; subst hk; exact hc0
        | succ k => simp at hk; have := h2 k c hk; rwa [show o + (k + 1) = o + 1 + k by omega]
      · cases hg
    · cases hg

theorem Rel.loadCells (r : Rel h nx φ w) {b : Nat} {cs : T AV} {n : Nat} {elem : TypeId} {opn fz : Bool} (hb : h.get b = some (.cells cs n elem opn fz)) {l : Loc} (hl : φ b = some l)
    {o m : Nat} {vs : List AV} (hg : getN cs o m = some vs) : ∃ cvs : List Value, VRs φ vs cvs ∧ (Go.loadCells ⟨l.blk, l.dlt + o, none⟩ m).run P w = .ok cvs.toArray w := by
  obtain ⟨cvs, h1, h2⟩ := r.cells hb hl hg
  refine ⟨cvs, h1, ?_⟩
  have hm := getN_len _ _ _ hg
  rw [← hm, h1.1]
  exact run_loadCells _ _ cvs (fun k v hk => by rw [Nat.add_assoc]; exact h2 k v hk)

theorem VRs.agg {l : List AV} {a : List Value} (hs : VRs φ l a) : VR φ (.agg l) (.agg a.toArray) :=
  .agg l _ (by simp [hs.1]) (fun i v c hv hc => hs.2 i v c hv (by simpa using hc))
theorem VRs.tuple {l : List AV} {a : List Value} (hs : VRs φ l a) : VR φ (.tuple l) (.tuple a.toArray) :=
  .tuple l _ (by simp [hs.1]) (fun i v c hv hc => hs.2 i v c hv (by simpa using hc))
theorem VR.agg_inv {l : List AV} {c : Value} (hr : VR φ (.agg l) c) : ∃ a : List Value, c = .agg a.toArray ∧ VRs φ l a := by
  cases hr with
  | agg l a hl ih => exact ⟨a.toList, by simp, by simpa using hl, fun i v c hv hc => ih i v c hv (by simpa using hc)⟩
theorem VR.tuple_inv {l : List AV} {c : Value} (hr : VR φ (.tuple l) c) : ∃ a : List Value, c = .tuple a.toArray ∧ VRs φ l a := by
  cases hr with
  | tuple l a hl ih => exact ⟨a.toList, by simp, by simpa using hl, fun i v c hv hc => ih i v c hv (by simpa using hc)⟩

theorem load_sound (r : Rel h nx φ w) {t : TypeId} {a v : AV} {c : Value} (hl : loadA P h t a = some v) (ha : VR φ a c) :
    ∃ cv, (Instr.loadAt t c).run P w = .ok cv w ∧ VR φ v cv := by
  unfold loadA at hl
  split at hl
  · rename_i b o
    cases ha with
    | ptr _ _ l hφ =>
      split at hl
      · rename_i cs n e opn fz hb
        split at hl
        · rename_i d hd
          simp only [Instr.loadAt, Instr.sureAddr, loadVar, Sem.run_bind, Sem.run_pure, Result.andThen_ok, run_isAgg _ _ hd]
          split at hl
          · rename_i hag
            split at hl
            · rename_i n hn
              split at hl
              · rename_i vs hg
                cases hl
                obtain ⟨cvs, h1, h2⟩ := r.loadCells (P := P) hb hφ hg
                refine ⟨.agg cvs.toArray, ?_, h1.agg⟩
                simp [hag, run_sizeOf _ _ hn, h2]
              · cases hl
            · cases hl
          · rename_i hag
            obtain ⟨cv, h1, h2⟩ := r.cell hb hφ hl
            refine ⟨cv, ?_, h2⟩
            simp [hag, h1]
        · cases hl
      · cases hl
  · cases hl

end Go.Abs

namespace Go.Abs

variable {P : Program} {h : T AB} {nx : Nat} {φ : Ren} {w : World}

/-! ### numbers -/

theorem eqI_iff (a b : Int) : eqI a b = (a == b) := by
  rw [Bool.eq_iff_iff, beq_iff_eq]
  cases a <;> cases b <;> simp [eqI] <;> omega
theorem leI_iff (a b : Int) : leI a b = decide (a ≤ b) := by
  cases a <;> cases b <;> simp [leI]
  · rename_i a b; rw [Bool.eq_iff_iff]; simp [Nat.ble_eq]
  · rename_i a b; omega
  · rename_i a b; omega
  · rename_i a b; rw [Bool.eq_iff_iff]; simp [Nat.ble_eq]; omega
theorem ltI_iff (a b : Int) : ltI a b = decide (a < b) := by
  unfold ltI
  rw [leI_iff, Bool.eq_iff_iff]; simp

theorem wrapA_eq (k : IntKind) (n : Int) : wrapA k n = k.wrap n := by
  unfold wrapA
  split
  · rename_i m
    cases hb : Nat.ble m (maxN k) with
    | false => rfl
    | true =>
      have hm : m ≤ maxN k := Nat.le_of_ble_eq_true hb
      show Int.ofNat m = _
      cases k <;> simp only [maxN] at hm <;> simp only [IntKind.wrap, IntKind.bits, IntKind.signed] <;> simp <;> omega
  · rename_i m
    cases hb : (k.signed && Nat.ble m (maxN k)) with
    | false => rfl
    | true =>
      rw [Bool.and_eq_true] at hb
      have hm : m ≤ maxN k := Nat.le_of_ble_eq_true hb.2
      show Int.negSucc m = _
      have hk : k.signed = true := hb.1
      clear hb
      cases k <;> first | exact absurd hk (by decide) | (simp only [maxN] at hm; simp only [IntKind.wrap, IntKind.bits, IntKind.signed]; simp; omega)

theorem cond_none {α : Type} {b : Bool} {x : Option α} {v : α} (hc : cond b x none = some v) : b = true ∧ x = some v := by
  cases b
  · cases hc
  · exact ⟨rfl, hc⟩
theorem cond_none' {α : Type} {b : Bool} {x : Option α} {v : α} (hc : cond b none x = some v) : b = false ∧ x = some v := by
  cases b
  · exact ⟨rfl, hc⟩
  · cases hc

/-! ### strings -/

theorem enc_lt : ∀ (l : List UInt8), enc l < 256 ^ l.length := by
  intro l
  induction l with
  | nil => simp [enc]
  | cons b l ih =>
    have : b.toNat < 256 := b.toNat_lt
    simp only [enc, List.length_cons, Nat.pow_succ]
    omega

theorem enc_inj : ∀ (l m : List UInt8), l.length = m.length → enc l = enc m → l = m := by
  intro l
  induction l with
  | nil => intro m hl _; cases m <;> simp_all
  | cons b l ih =>
    intro m hl he
    cases m with
    | nil => simp at hl
    | cons c m =>
      simp only [enc] at he
      have h1 : b.toNat < 256 := b.toNat_lt
      have h2 : c.toNat < 256 := c.toNat_lt
      have e1 : b.toNat = c.toNat := by omega
      have e2 : enc l = enc m := by omega
      rw [ih m (by simpa using hl) e2, UInt8.toNat_inj.1 e1]

theorem enc_append : ∀ (l m : List UInt8), enc (l ++ m) = enc l + 256 ^ l.length * enc m := by
  intro l m
  induction l with
  | nil => simp [enc]
  | cons b l ih =>
    simp only [List.cons_append, enc, ih, List.length_cons, Nat.pow_succ]
    rw [Nat.mul_add, ← Nat.mul_assoc, Nat.mul_comm 256 (256 ^ l.length)]
    omega

theorem enc_drop : ∀ (l : List UInt8) (n : Nat), enc (l.drop n) = enc l / 256 ^ n := by
  intro l
  induction l with
  | nil => intro n; simp [enc]
  | cons b l ih =>
    intro n
    cases n with
    | zero => simp
    | succ n =>
      have hb : b.toNat < 256 := b.toNat_lt
      simp only [List.drop_succ_cons, ih, enc, Nat.pow_succ]
      rw [Nat.mul_comm (256 ^ n) 256, ← Nat.div_div_eq_div_mul]
      congr 1
      omega

theorem enc_take : ∀ (l : List UInt8) (n : Nat), enc (l.take n) = enc l % 256 ^ n := by
  intro l
  induction l with
  | nil => intro n; simp [enc]
  | cons b l ih =>
    intro n
    cases n with
    | zero => simp [enc, Nat.mod_one]
    | succ n =>
      have hb : b.toNat < 256 := b.toNat_lt
      simp only [List.take_succ_cons, ih, enc, Nat.pow_succ]
      rw [Nat.mul_comm (256 ^ n) 256]
      have := Nat.mod_mul (x := b.toNat + 256 * enc l) (a := 256) (b := 256 ^ n)
      rw [this]
      have e1 : (b.toNat + 256 * enc l) % 256 = b.toNat := by omega
      have e2 : (b.toNat + 256 * enc l) / 256 = enc l := by omega
      rw [e1, e2]

theorem enc_get : ∀ (l : List UInt8) (i : Nat) (b : UInt8), l[i]? = some b → enc l / 256 ^ i % 256 = b.toNat := by
  intro l i b hi
  rw [← enc_drop]
  have : l.drop i = b :: l.drop (i + 1) := by
    have hlt : i < l.length := by
      rcases Nat.lt_or_ge i l.length with h | h
      · exact h
      · simp [List.getElem?_eq_none h] at hi
    rw [List.drop_eq_getElem_cons hlt]
    rw [List.getElem?_eq_getElem hlt] at hi
    cases hi; rfl
  rw [this]
  simp only [enc]
  have hb : b.toNat < 256 := b.toNat_lt
  omega

theorem VR.str_inv {n c : Nat} {v : Value} (hr : VR φ (.str n c) v) : ∃ s : ByteArray, v = .string s ∧ s.data.toList.length = n ∧ enc s.data.toList = c := by
  cases hr with
  | str _ _ s hn hc => exact ⟨s, rfl, hn, hc⟩

theorem str_eq {n c m d : Nat} {s t : ByteArray} (h1 : s.data.toList.length = n) (h2 : enc s.data.toList = c) (h3 : t.data.toList.length = m) (h4 : enc t.data.toList = d) :
    (Nat.beq n m && Nat.beq c d) = true ↔ s = t := by
  constructor
  · intro hb
    rw [Bool.and_eq_true] at hb
    have e1 : n = m := Nat.eq_of_beq_eq_true hb.1
    have e2 : c = d := Nat.eq_of_beq_eq_true hb.2
    have := enc_inj s.data.toList t.data.toList (by omega) (by omega)
    cases s; cases t
    simp only at this
    rw [Array.toList_inj.1 this]
  · intro e
    subst e
    rw [Bool.and_eq_true]
    exact ⟨by rw [← h1, ← h3]; exact Nat.beq_refl _, by rw [← h2, ← h4]; exact Nat.beq_refl _⟩

theorem bytesLess_enc : ∀ (f : Nat) (l m : List UInt8), l.length < f → strLt f l.length (enc l) m.length (enc m) = Op.bytesLess l m := by
  intro f
  induction f with
  | zero => intro l m hl; simp at hl
  | succ f ih =>
    intro l m hl
    cases m with
    | nil => cases l <;> simp [strLt, Op.bytesLess]
    | cons c m =>
      cases l with
      | nil => simp [strLt, Op.bytesLess]
      | cons b l =>
        have hb : b.toNat < 256 := b.toNat_lt
        have hc : c.toNat < 256 := c.toNat_lt
        have e1 : enc (b :: l) % 256 = b.toNat := by simp only [enc]; omega
        have e2 : enc (c :: m) % 256 = c.toNat := by simp only [enc]; omega
        have e3 : enc (b :: l) / 256 = enc l := by simp only [enc]; omega
        have e4 : enc (c :: m) / 256 = enc m := by simp only [enc]; omega
        simp only [strLt, List.length_cons, e1, e2, e3, e4, Op.bytesLess]
        rw [ih l m (by simpa using hl)]
        by_cases hlt : b.toNat < c.toNat
        · have : Nat.blt b.toNat c.toNat = true := by simpa [Nat.blt_eq] using hlt
          rw [this]
          have h2 : b < c := hlt
          simp [h2]
        · have : Nat.blt b.toNat c.toNat = false := by
            cases hx : Nat.blt b.toNat c.toNat
            · rfl
            · exact absurd (by simpa [Nat.blt_eq] using hx) hlt
          rw [this]
          have h2 : ¬ b < c := hlt
          simp only [cond_false, h2, decide_false, Bool.false_or]
          by_cases he : b.toNat = c.toNat
          · have h3 : b = c := UInt8.toNat_inj.1 he
            have : Nat.beq b.toNat c.toNat = true := by rw [he]; exact Nat.beq_refl _
            rw [this, h3]; simp
          · have : Nat.beq b.toNat c.toNat = false := by
              cases hx : Nat.beq b.toNat c.toNat
              · rfl
              · exact absurd (Nat.eq_of_beq_eq_true hx) he
            rw [this]
            have h3 : (b == c) = false := by simp; intro e; exact he (by rw [e])
            simp [h3]

end Go.Abs

namespace Go.Abs

variable {P : Program} {h : T AB} {nx : Nat} {φ : Ren} {w : World}

theorem size_len (s : ByteArray) : s.size = s.data.toList.length := (Array.length_toList).symm

theorem boolEq (a b : Bool) : cond a b (!b) = (a == b) := by cases a <;> cases b <;> rfl

theorem part_sound {t : TypeId} {cs : List AV} {off : Nat} {v : AV} {ca : List Value} (hp : partA P t cs off = some v) (hs : VRs φ cs ca) :
    ∃ c, (part t ca.toArray off).run P w = .ok c w ∧ VR φ v c := by
  unfold partA at hp
  split at hp
  · rename_i d hd
    split at hp
    · rename_i hag
      split at hp
      · rename_i n hn
        cases hp
        refine ⟨.agg (ca.toArray.extract off (off + n)), ?_, ?_⟩
        · simp [part, run_isAgg _ _ hd, hag, run_sizeOf _ _ hn]
        · have e : ca.toArray.extract off (off + n) = ((ca.drop off).take n).toArray := by
            simp [List.take_drop]
          rw [e]
          exact ((hs.drop off).take n).agg
      · cases hp
    · rename_i hag
      obtain ⟨c, hc, hr⟩ := hs.get hp
      refine ⟨c, ?_, hr⟩
      simp [part, run_isAgg _ _ hd, hag, hc]
  · cases hp

theorem intOp_sound {op : BinOp} {k : IntKind} {x y : Int} {v : AV} (hi : intOp op k x y = some v) (hs : op ≠ .shl) (hs' : op ≠ .shr) (t : TypeId) :
    ∃ c, (binOp op t (.int k x) (.int k y)).run P w = .ok c w ∧ VR φ v c := by
  cases op <;> simp only [intOp] at hi
  case add => cases hi; exact ⟨.int k (k.wrap (x + y)), by simp [binOp, Op.intArith], by rw [wrapA_eq]; exact .int _ _⟩
  case sub => cases hi; exact ⟨.int k (k.wrap (x - y)), by simp [binOp, Op.intArith], by rw [wrapA_eq]; exact .int _ _⟩
  case mul => cases hi; exact ⟨.int k (k.wrap (x * y)), by simp [binOp, Op.intArith], by rw [wrapA_eq]; exact .int _ _⟩
  case quo =>
    obtain ⟨h0, hi⟩ := cond_none' hi
    cases hi
    have h1 : ¬ y = 0 := by rw [eqI_iff] at h0; simpa using h0
    exact ⟨.int k (k.wrap (x.tdiv y)), by simp [binOp, Op.intDiv, h1], by rw [wrapA_eq]; exact .int _ _⟩
  case rem =>
    obtain ⟨h0, hi⟩ := cond_none' hi
    cases hi
    have h1 : ¬ y = 0 := by rw [eqI_iff] at h0; simpa using h0
    exact ⟨.int k (x.tmod y), by simp [binOp, Op.intDiv, h1], .int _ _⟩
  case and => cases hi; exact ⟨_, by simp [binOp, Op.intBits], .int _ _⟩
  case or => cases hi; exact ⟨_, by simp [binOp, Op.intBits], .int _ _⟩
  case xor => cases hi; exact ⟨_, by simp [binOp, Op.intBits], .int _ _⟩
  case andNot => cases hi; exact ⟨_, by simp [binOp, Op.intBits], .int _ _⟩
  case shl => exact absurd rfl hs
  case shr => exact absurd rfl hs'
  case eql => cases hi; exact ⟨_, by simp [binOp, Op.intCmp]; rfl, by rw [eqI_iff]; exact .bool _⟩
  case neq => cases hi; exact ⟨_, by simp [binOp, Op.intCmp]; rfl, by rw [eqI_iff]; exact .bool _⟩
  case lss => cases hi; exact ⟨_, by simp [binOp, Op.intCmp]; rfl, by rw [ltI_iff]; exact .bool _⟩
  case leq => cases hi; exact ⟨_, by simp [binOp, Op.intCmp]; rfl, by rw [leI_iff]; exact .bool _⟩
  case gtr => cases hi; exact ⟨_, by simp [binOp, Op.intCmp]; rfl, by rw [ltI_iff]; exact .bool _⟩
  case geq => cases hi; exact ⟨_, by simp [binOp, Op.intCmp]; rfl, by rw [leI_iff]; exact .bool _⟩

theorem shift_sound {op : BinOp} {k k' : IntKind} {x y : Int} {v : AV} (hi : shiftA op k x y = some v) (ho : op = .shl ∨ op = .shr) (t : TypeId) :
    ∃ c, (binOp op t (.int k x) (.int k' y)).run P w = .ok c w ∧ VR φ v c := by
  unfold shiftA at hi
  split at hi
  · cases hi
  · rename_i m
    rcases ho with rfl | rfl
    · cases hi
      exact ⟨.int k (k.wrap (x * 2 ^ (min m k.bits))), by simp [binOp, Op.shift]; omega, .int _ _⟩
    · cases hi
      exact ⟨.int k (x.fdiv (2 ^ (min m k.bits))), by simp [binOp, Op.shift]; omega, .int _ _⟩

theorem str_beq {n c m d : Nat} {s u : ByteArray} (s1 : s.data.toList.length = n) (s2 : enc s.data.toList = c) (u1 : u.data.toList.length = m) (u2 : enc u.data.toList = d) :
    (s.toList == u.toList) = (Nat.beq n m && Nat.beq c d) := by
  have he := str_eq s1 s2 u1 u2
  rw [Bool.eq_iff_iff, beq_iff_eq, he, ByteArray.toList_eq, ByteArray.toList_eq]
  constructor
  · intro e; cases s; cases u; simp only at e; rw [Array.toList_inj.1 e]
  · intro e; rw [e]

theorem strOp_sound {op : BinOp} {n c m d : Nat} {v : AV} {a b : Value} (hs : strOp op n c m d = some v) (ha : VR φ (.str n c) a) (hb : VR φ (.str m d) b) (t : TypeId) :
    ∃ r, (binOp op t a b).run P w = .ok r w ∧ VR φ v r := by
  obtain ⟨s, rfl, s1, s2⟩ := ha.str_inv
  obtain ⟨u, rfl, u1, u2⟩ := hb.str_inv
  have heq := str_beq s1 s2 u1 u2
  have hb : ∀ o, (binOp o t (.string s) (.string u)) = Op.stringOp o s u := by intro o; cases o <;> rfl
  rw [hb]
  unfold strOp at hs
  split at hs
  · cases hs; exact ⟨_, by simp only [Op.stringOp, Sem.run_pure]; rw [heq], .bool _⟩
  · cases hs; exact ⟨_, by simp only [Op.stringOp, Sem.run_pure]; rw [heq], .bool _⟩
  · cases hs
    refine ⟨_, by simp only [Op.stringOp, Sem.run_pure]; rfl, ?_⟩
    have := bytesLess_enc (n + 1) s.data.toList u.data.toList (by omega)
    rw [s1, s2, u1, u2] at this
    rw [ByteArray.toList_eq, ByteArray.toList_eq, ← this]
    exact .bool _
  · obtain ⟨hle, hs⟩ := cond_none hs
    cases hs
    have hle := Nat.le_of_ble_eq_true hle
    have e1 : s.size = n := (size_len s).trans s1
    have e2 : u.size = m := (size_len u).trans u1
    refine ⟨.string (s ++ u), ?_, ?_⟩
    · simp only [Op.stringOp]
      rw [if_neg (by
        have : IntKind.i64.max = 9223372036854775807 := by decide
        rw [this]; omega)]
      rfl
    · have ed : (s ++ u).data.toList = s.data.toList ++ u.data.toList := by simp
      exact .str _ _ _ (by rw [ed]; simp [s1, u1]) (by rw [ed, enc_append, s1, s2, u2])
  · cases hs

end Go.Abs

namespace Go.Abs

variable {P : Program} {h : T AB} {nx : Nat} {φ : Ren} {w : World}

theorem beqN {a b : Nat} : Nat.beq a b = true ↔ a = b := ⟨Nat.eq_of_beq_eq_true, fun e => by rw [e]; exact Nat.beq_refl _⟩

theorem part_plain {t : TypeId} {d : TypeDesc} (hd : P.underlying t = some d) (hag : isAggD d = false) {l : List AV} {ca : List Value} (hs : VRs φ l ca) {off : Nat} {v : AV} (hv : l[off]? = some v) :
    ∃ c, (part t ca.toArray off).run P w = .ok c w ∧ VR φ v c := by
  obtain ⟨c, hc, hr⟩ := hs.get hv
  exact ⟨c, by simp [part, run_isAgg _ _ hd, hag, hc], hr⟩

theorem VR.int_inv {k : IntKind} {n : Int} {c : Value} (hr : VR φ (.int k n) c) : c = .int k n := by cases hr; rfl
theorem VR.bool_inv {b : Bool} {c : Value} (hr : VR φ (.bool b) c) : c = .bool b := by cases hr; rfl

theorem eqFields_sound (f d : Nat) (hd : 1 ≤ d) {xs ys : List AV} {cx cy : List Value} (hx : VRs φ xs cx) (hy : VRs φ ys cy) : ∀ (fs : List Field) (b : Bool), eqA.eqFields P f xs ys fs = some b →
    (Op.eqFields d cx.toArray cy.toArray fs).run P w = .ok b w := by
  obtain ⟨d, rfl⟩ : ∃ e, d = e + 1 := ⟨d - 1, by omega⟩
  intro fs
  induction fs with
  | nil => intro b he; simp only [eqA.eqFields] at he; cases he; rfl
  | cons g fs ih =>
    intro b he
    simp only [eqA.eqFields] at he
    simp only [Op.eqFields]
    split at he
    · rename_i k0 k a k' b' hu hxv hyv
      obtain ⟨h1, he2⟩ := cond_none he
      clear he
      rw [Bool.and_eq_true] at h1
      have hk : k = k' := of_decide_eq_true h1.1
      have hn : g.name ≠ "_" := by simpa using h1.2
      obtain ⟨c1, p1, r1⟩ := part_plain (P := P) (w := w) hu rfl hx hxv
      obtain ⟨c2, p2, r2⟩ := part_plain (P := P) (w := w) hu rfl hy hyv
      obtain rfl := r1.int_inv
      obtain rfl := r2.int_inv
      subst hk
      rw [if_pos hn]
      simp only [Sem.run_bind, p1, p2, Result.andThen_ok, run_equalIn_int w d g.type _ _ _ _ hu]
      rw [eqI_iff] at he2
      cases hab : (a == b') with
      | true => rw [hab] at he2; simp only [Bool.not_true, Bool.false_eq_true, if_false]; exact ih b he2
      | false => rw [hab] at he2; cases he2; simp
    · rename_i n c m e hu hxv hyv
      obtain ⟨h1, he2⟩ := cond_none he
      clear he
      have hn : g.name ≠ "_" := by simpa using h1
      obtain ⟨c1, p1, r1⟩ := part_plain (P := P) (w := w) hu rfl hx hxv
      obtain ⟨c2, p2, r2⟩ := part_plain (P := P) (w := w) hu rfl hy hyv
      obtain ⟨s, rfl, s1, s2⟩ := r1.str_inv
      obtain ⟨u, rfl, u1, u2⟩ := r2.str_inv
      rw [if_pos hn]
      simp only [Sem.run_bind, p1, p2, Result.andThen_ok, run_equalIn_string w d g.type _ _ hu]
      rw [str_beq s1 s2 u1 u2]
      cases hab : (Nat.beq n m && Nat.beq c e) with
      | true =>
        rw [hab] at he2
        simp only [Bool.not_true, Bool.false_eq_true, if_false]
        exact ih b he2
      | false =>
        rw [hab] at he2
        cases he2
        simp
    · rename_i a b' hu hxv hyv
      obtain ⟨h1, he2⟩ := cond_none he
      clear he
      have hn : g.name ≠ "_" := by simpa using h1
      obtain ⟨c1, p1, r1⟩ := part_plain (P := P) (w := w) hu rfl hx hxv
      obtain ⟨c2, p2, r2⟩ := part_plain (P := P) (w := w) hu rfl hy hyv
      obtain rfl := r1.bool_inv
      obtain rfl := r2.bool_inv
      rw [if_pos hn]
      simp only [Sem.run_bind, p1, p2, Result.andThen_ok, run_equalIn_bool' w d g.type _ _ hu]
      rw [boolEq] at he2
      cases hab : (a == b') with
      | true => rw [hab] at he2; simp only [Bool.not_true, Bool.false_eq_true, if_false]; exact ih b he2
      | false => rw [hab] at he2; cases he2; simp
    · cases he

theorem run_eq_iface_ne (d : Nat) {t t1 u1 : TypeId} {ms : Array (String × TypeId)} {c1 c2 : Value} (hu : P.underlying t = some (.interface ms)) (hne : t1 ≠ u1) :
    (Op.equalIn (d + 1) t (.iface t1 c1) (.iface u1 c2)).run P w = .ok false w := by
  simp only [Op.equalIn, Sem.run_bind, run_underlying _ _ hu, Result.andThen_ok]
  rw [if_pos hne]
  rfl

theorem run_eq_iface (d : Nat) {t t1 : TypeId} {ms : Array (String × TypeId)} {c1 c2 : Value} (hu : P.underlying t = some (.interface ms)) {i : TypeInfo} (hi : P.info? t1 = some i) (hc : i.comparable = true) :
    (Op.equalIn (d + 1) t (.iface t1 c1) (.iface t1 c2)).run P w = (Op.equalIn d t1 c1 c2).run P w := by
  simp only [Op.equalIn, Sem.run_bind, run_underlying _ _ hu, Result.andThen_ok]
  rw [if_neg (by simp)]
  simp only [Sem.run_bind, run_typeInfo _ _ hi, Result.andThen_ok, hc, Bool.not_true, Bool.false_eq_true, if_false]

theorem run_eq_nil {d : Nat} {t : TypeId} {x y : AV} {cx cy : Value} {b : Bool} {td : TypeDesc} (hu : P.underlying t = some td)
    (hk : (∃ e, td = .slice e) ∨ (∃ k e, td = .map k e) ∨ (∃ a b c, td = .func a b c) ∨ (∃ ms, td = .interface ms))
    (hb : (match td, x, y with
      | .slice _, .nilSlice, .nilSlice => some true
      | .slice _, .nilSlice, .slice .. | .slice _, .nilSlice, .sliceU .. | .slice _, .slice .., .nilSlice | .slice _, .sliceU .., .nilSlice => some false
      | .map _ _, .nilMap, .nilMap => some true
      | .map _ _, .nilMap, .map _ | .map _ _, .map _, .nilMap => some false
      | .func _ _ _, .nilFunc, .nilFunc => some true
      | .func _ _ _, .nilFunc, .func .. | .func _ _ _, .func .., .nilFunc => some false
      | .interface _, .nilIface, .iface .. | .interface _, .iface .., .nilIface => some false
      | _, _, _ => none) = some b) (hx : VR φ x cx) (hy : VR φ y cy) : (Op.equalIn (d + 1) t cx cy).run P w = .ok b w := by
  simp only [Op.equalIn, Sem.run_bind, run_underlying _ _ hu, Result.andThen_ok]
  rcases hk with ⟨e, rfl⟩ | ⟨k, e, rfl⟩ | ⟨a, b', c, rfl⟩ | ⟨ms, rfl⟩ <;> split at hb <;> cases hb <;> (try contradiction) <;> cases hx <;> cases hy <;> (try contradiction) <;> rfl

theorem eqA_sound : ∀ (f d : Nat) (t : TypeId) (x y : AV) (cx cy : Value) (b : Bool), eqA P t f x y = some b → VR φ x cx → VR φ y cy → f + 1 ≤ d →
    (Op.equalIn d t cx cy).run P w = .ok b w := by
  intro f
  induction f with
  | zero => intro d t x y cx cy b he; simp [eqA] at he
  | succ f ih =>
    intro d t x y cx cy b he hx hy hd
    obtain ⟨d, rfl⟩ : ∃ e, d = e + 1 := ⟨d - 1, by omega⟩
    simp only [eqA] at he
    split at he
    · rename_i hu
      split at he
      · cases he; cases hx; cases hy
        rw [run_equalIn_bool' w d t _ _ hu, boolEq]
      · cases he
    · rename_i k hu
      split at he
      · obtain ⟨h1, he⟩ := cond_none he
        cases he; cases hx; cases hy
        have hk := of_decide_eq_true h1
        subst hk
        rw [run_equalIn_int w d t _ _ _ _ hu, eqI_iff]
      · cases he
    · rename_i hu
      split at he
      · cases he
        obtain ⟨s, rfl, s1, s2⟩ := hx.str_inv
        obtain ⟨u, rfl, u1, u2⟩ := hy.str_inv
        rw [run_equalIn_string w d t _ _ hu]
        rw [str_beq s1 s2 u1 u2]
      · cases he
    · rename_i e hu
      split at he
      · cases he; cases hx; cases hy
        simp [Op.equalIn, run_underlying _ _ hu]
      · cases he; cases hx; cases hy
        simp [Op.equalIn, run_underlying _ _ hu]
      · cases he; cases hx; cases hy
        simp [Op.equalIn, run_underlying _ _ hu]
      · rename_i b1 o c q
        split at he
        · rename_i m hm
          obtain ⟨h1, he⟩ := cond_none he
          cases he
          have hbc := beqN.1 h1
          subst hbc
          cases hx with
          | ptr _ _ l1 e1 =>
            cases hy with
            | ptr _ _ l2 e2 =>
              rw [e1] at e2; cases e2
              have : ((⟨l1.blk, l1.dlt + o, none⟩ : Addr) == ⟨l1.blk, l1.dlt + q, none⟩) = Nat.beq o q := by
                rw [Bool.eq_iff_iff, beq_iff_eq, beqN]
                constructor
                · intro e; have := congrArg Addr.off e; simp at this; exact this
                · intro e; rw [e]
              simp [Op.equalIn, run_underlying _ _ hu, run_sizeOf _ _ hm, sameAddr, this]
        · cases he
      · cases he
    · rename_i e hu
      refine run_eq_nil hu (.inl ⟨e, rfl⟩) ?_ hx hy
      revert he
      cases x <;> cases y <;> first | exact id | (intro he; cases he)
    · rename_i k e hu
      refine run_eq_nil hu (.inr (.inl ⟨k, e, rfl⟩)) ?_ hx hy
      revert he
      cases x <;> cases y <;> first | exact id | (intro he; cases he)
    · rename_i k e e' hu
      refine run_eq_nil hu (.inr (.inr (.inl ⟨k, e, e', rfl⟩))) ?_ hx hy
      revert he
      cases x <;> cases y <;> first | exact id | (intro he; cases he)
    · rename_i e hu
      split at he
      · cases he; exact run_eq_nil hu (.inr (.inr (.inr ⟨e, rfl⟩))) rfl hx hy
      · cases he; exact run_eq_nil hu (.inr (.inr (.inr ⟨e, rfl⟩))) rfl hx hy
      · rename_i t1 a u1 b1
        cases hx with
        | iface _ _ c1 r1 =>
          cases hy with
          | iface _ _ c2 r2 =>
            cases htu : Nat.beq t1 u1 with
            | false =>
              rw [htu] at he
              cases he
              have : t1 ≠ u1 := fun e => by rw [beqN.2 e] at htu; cases htu
              exact run_eq_iface_ne d hu this
            | true =>
              rw [htu] at he
              have := beqN.1 htu
              subst this
              simp only [cond_true] at he
              split at he
              · rename_i i hi
                split at he
                · rename_i hc
                  rw [run_eq_iface d hu hi hc]
                  exact ih d t1 a b1 c1 c2 b he r1 r2 (by omega)
                · cases he
              · cases he
      · cases he
    · rename_i fs hu
      split at he
      · rename_i xs ys
        obtain ⟨h1, he2⟩ := cond_none' he
        obtain ⟨ca, rfl, ra⟩ := hx.agg_inv
        obtain ⟨cb, rfl, rb⟩ := hy.agg_inv
        have hf : P.underlying t = some (.struct (P.fieldsOf t)) := by simp [Program.fieldsOf, hu]
        rw [run_equalIn_struct w d t _ _ hf h1]
        have : P.fieldsOf t = fs := by simp [Program.fieldsOf, hu]
        rw [this]
        exact eqFields_sound f d (by omega) ra rb _ _ he2
      · cases he
    · cases he

end Go.Abs

namespace Go.Abs

variable {P : Program} {h : T AB} {nx : Nat} {φ : Ren} {w : World}

theorem eqA_bin {t : TypeId} {x y : AV} {cx cy : Value} {b : Bool} (he : eqA P t 3 x y = some b) (hx : VR φ x cx) (hy : VR φ y cy) : (Op.equal t cx cy).run P w = .ok b w :=
  eqA_sound 3 Op.maxDepth t x y cx cy b he hx hy (by decide)

/-- The comparison by ==, != of values that are no numbers or strings. -/
theorem bin_eq {op : BinOp} {t : TypeId} {x y : AV} {cx cy : Value} {v : AV} (hv : (match op with
      | .eql => match eqA P t 3 x y with
        | some b => some (AV.bool b)
        | none => none
      | .neq => match eqA P t 3 x y with
        | some b => some (AV.bool (!b))
        | none => none
      | _ => none) = some v) (hx : VR φ x cx) (hy : VR φ y cy)
    (he : (binOp .eql t cx cy).run P w = ((Op.equal t cx cy).run P w).andThen fun b w' => .ok (.bool b) w')
    (hn : (binOp .neq t cx cy).run P w = ((Op.equal t cx cy).run P w).andThen fun b w' => .ok (.bool (!b)) w') :
    ∃ c, (binOp op t cx cy).run P w = .ok c w ∧ VR φ v c := by
  split at hv
  · split at hv
    · rename_i b hb
      cases hv
      exact ⟨.bool b, by rw [he, eqA_bin hb hx hy]; rfl, .bool _⟩
    · cases hv
  · split at hv
    · rename_i b hb
      cases hv
      exact ⟨.bool (!b), by rw [hn, eqA_bin hb hx hy]; rfl, .bool _⟩
    · cases hv
  · cases hv

theorem run_eq_nils (d : Nat) {t : TypeId} {ms : Array (String × TypeId)} (hu : P.underlying t = some (.interface ms)) :
    (Op.equalIn (d + 1) t .nilIface .nilIface).run P w = .ok true w := by
  simp only [Op.equalIn, Sem.run_bind, run_underlying _ _ hu, Result.andThen_ok]
  rfl

theorem bin_sound {cst : Bool} {op : BinOp} {t : TypeId} {x y v : AV} {cx cy : Value} (hb : binA P cst op t x y = some v) (hx : VR φ x cx) (hy : VR φ y cy) {ox oy : Operand}
    (hc : cst = (Region.isConst ox || Region.isConst oy)) : ∃ c, (do eqGuard op t ox oy cx cy; binOp op t cx cy : Sem Value).run P w = .ok c w ∧ VR φ v c := by
  -- the guard is idle wherever not both are nil interfaces or aggregates
  have hg : (∀ w, (eqGuard op t ox oy cx cy).run P w = .ok () w) → (∃ c, (binOp op t cx cy).run P w = .ok c w ∧ VR φ v c) →
      ∃ c, (do eqGuard op t ox oy cx cy; binOp op t cx cy : Sem Value).run P w = .ok c w ∧ VR φ v c := by
    rintro g ⟨c, h1, h2⟩
    exact ⟨c, by simp only [Sem.run_bind, g, Result.andThen_ok]; exact h1, h2⟩
  unfold binA at hb
  split at hb
  · rename_i k a k' b
    obtain rfl := hx.int_inv
    obtain rfl := hy.int_inv
    refine hg (fun w => by cases op <;> rfl) ?_
    split at hb
    · exact shift_sound hb (.inl rfl) t
    · exact shift_sound hb (.inr rfl) t
    · rename_i h1 h2
      obtain ⟨hk, hb2⟩ := cond_none hb
      have hk := of_decide_eq_true hk
      subst hk
      exact intOp_sound hb2 h1 h2 t
  · obtain ⟨s, rfl, _⟩ := hx.str_inv
    obtain ⟨u, rfl, _⟩ := hy.str_inv
    exact hg (fun w => by cases op <;> rfl) (strOp_sound hb hx hy t)
  · cases hx; cases hy
    split at hb
    · rename_i ms hu
      have he : (Op.equal t .nilIface .nilIface).run P w = .ok true w := run_eq_nils 9999 hu
      split at hb
      · cases hb
        refine hg (fun w => ?_) ⟨.bool true, ?_, .bool _⟩
        · simp only [eqGuard]
          cases ox <;> cases oy <;> simp [Region.isConst] at hc <;> rfl
        · simp only [binOp, Sem.run_bind, he, Result.andThen_ok]; rfl
      · cases hb
        refine hg (fun w => ?_) ⟨.bool false, ?_, .bool _⟩
        · simp only [eqGuard]
          cases ox <;> cases oy <;> simp [Region.isConst] at hc <;> rfl
        · simp only [binOp, Sem.run_bind, he, Result.andThen_ok]; rfl
      · cases hb
    · cases hb
  · obtain ⟨hm, hb⟩ := cond_none' hb
    obtain ⟨ca, rfl, _⟩ := hx.agg_inv
    obtain ⟨cb, rfl, _⟩ := hy.agg_inv
    refine hg (fun w => run_eqGuard_agg w op t ox oy _ _ hm) (bin_eq hb hx hy ?_ ?_)
    · simp only [binOp, Sem.run_bind]; rfl
    · simp only [binOp, Sem.run_bind]; rfl
  · rename_i h1 h2 h3 h4
    have hgd : ∀ w, (eqGuard op t ox oy cx cy).run P w = .ok () w := by
      intro w
      cases hx <;> cases hy <;> first
        | (cases op <;> rfl)
        | exact absurd rfl (h3 rfl)
        | exact (h4 _ _ rfl rfl).elim
    refine hg hgd ?_
    by_cases ho : op = .eql ∨ op = .neq
    · refine bin_eq hb hx hy ?_ ?_
      · cases hx <;> cases hy <;> first
          | (simp only [binOp, Sem.run_bind]; rfl)
          | exact (h1 _ _ _ _ rfl rfl).elim
          | exact (h2 _ _ _ _ rfl rfl).elim
          | exact absurd rfl (h3 rfl)
          | exact (h4 _ _ rfl rfl).elim
      · cases hx <;> cases hy <;> first
          | (simp only [binOp, Sem.run_bind]; rfl)
          | exact (h1 _ _ _ _ rfl rfl).elim
          | exact (h2 _ _ _ _ rfl rfl).elim
          | exact absurd rfl (h3 rfl)
          | exact (h4 _ _ rfl rfl).elim
    · split at hb
      · exact absurd (.inl rfl) ho
      · exact absurd (.inr rfl) ho
      · cases hb

theorem un_sound {op : UnOp} {x v : AV} {c : Value} (hu : unA op x = some v) (hx : VR φ x c) : ∃ r, (Op.unary op c).run P w = .ok r w ∧ VR φ v r := by
  unfold unA at hu
  split at hu
  · cases hu; cases hx
    exact ⟨.int _ (IntKind.wrap _ (0 - _)), rfl, by rw [wrapA_eq]; exact .int _ _⟩
  · cases hu; cases hx
    exact ⟨_, rfl, .int _ _⟩
  · cases hu; cases hx
    exact ⟨_, rfl, .bool _⟩
  · cases hu

theorem fieldAddr_sound {s : TypeId} {x v : AV} {f : Nat} {c : Value} (hf : fieldAddrA P s x f = some v) (hx : VR φ x c) : ∃ r, (Instr.fieldAt s c f).run P w = .ok r w ∧ VR φ v r := by
  unfold fieldAddrA at hf
  split at hf
  · rename_i fs b o hu
    cases hx with
    | ptr _ _ l hl =>
      split at hf
      · rename_i fd hfd
        split at hf
        · rename_i n hn
          cases hf
          refine ⟨.pointer (some ⟨l.blk, l.dlt + (o + fd.offset), none⟩), ?_, .ptr _ _ l hl⟩
          simp [Instr.fieldAt, run_underlying _ _ hu, hfd, Instr.sureAddr, fieldPlace, run_sizeOf _ _ hn, Addr.add_none, Nat.add_assoc]
        · cases hf
      · cases hf
  · cases hf

theorem indexAddr_sound {t : TypeId} {x ix v : AV} {c ci : Value} (hv : indexAddrA P t x ix = some v) (hx : VR φ x c) (hi : VR φ ix ci) :
    ∃ r, (Instr.indexAt t c ci).run P w = .ok r w ∧ VR φ v r := by
  unfold indexAddrA at hv
  split at hv
  · rename_i k i
    obtain rfl := hi.int_inv
    split at hv
    · rename_i e b o len cap hu
      split at hv
      · rename_i es hes
        obtain ⟨hlt, hv⟩ := cond_none hv
        have hlt : i < len := by simpa [Nat.blt_eq] using hlt
        cases hv
        cases hx with
        | slice _ _ _ _ l hl =>
          refine ⟨.pointer (some ⟨l.blk, l.dlt + (o + i * es), none⟩), ?_, .ptr _ _ l hl⟩
          simp [Instr.indexAt, asIntOf, run_underlying _ _ hu, run_sizeOf _ _ hes, Addr.add_none, hlt, Nat.add_assoc]
      · cases hv
    · rename_i e b o len cap hu
      split at hv
      · rename_i es hes
        obtain ⟨hlt, hv⟩ := cond_none hv
        have hlt : i < len := by simpa [Nat.blt_eq] using hlt
        cases hv
        cases hx with
        | sliceU _ _ _ _ cap' l hl _ _ =>
          refine ⟨.pointer (some ⟨l.blk, l.dlt + (o + i * es), none⟩), ?_, .ptr _ _ l hl⟩
          simp [Instr.indexAt, asIntOf, run_underlying _ _ hu, run_sizeOf _ _ hes, Addr.add_none, hlt, Nat.add_assoc]
        | sliceE _ _ _ _ l hl _ => omega
      · cases hv
    · rename_i n e b o hu
      split at hv
      · rename_i es hes
        obtain ⟨hlt, hv⟩ := cond_none hv
        have hlt : i < n := by simpa [Nat.blt_eq] using hlt
        cases hv
        cases hx with
        | ptr _ _ l hl =>
          refine ⟨.pointer (some ⟨l.blk, l.dlt + (o + i * es), none⟩), ?_, .ptr _ _ l hl⟩
          simp [Instr.indexAt, asIntOf, run_underlying _ _ hu, run_sizeOf _ _ hes, Addr.add_none, hlt, Nat.add_assoc, Instr.sureAddr]
      · cases hv
    · cases hv
  · cases hv

end Go.Abs

namespace Go.Abs

variable {P : Program} {h : T AB} {nx : Nat} {φ : Ren} {w : World}

/-- Bytes known: what the cells are, and the string of them. -/
theorem encA_spec : ∀ (l : List AV) (n : Nat), encA l = some n → ∃ bs : List UInt8, enc bs = n ∧ bs.length = l.length ∧ ∀ (cs : List Value), VRs φ l cs → cs = bs.map fun b => Value.int .u8 b.toNat := by
  intro l
  induction l with
  | nil => intro n hn; simp [encA] at hn; subst hn; exact ⟨[], rfl, rfl, fun cs hc => by have := hc.1; cases cs <;> simp_all⟩
  | cons v l ih =>
    intro n hn
    unfold encA at hn
    split at hn
    · simp_all
    · rename_i b l' heq
      cases heq
      obtain ⟨hb, hn⟩ := cond_none hn
      have hb : b < 256 := by simpa [Nat.blt_eq] using hb
      split at hn
      · rename_i m hm
        cases hn
        obtain ⟨bs, h1, h2, h3⟩ := ih m hm
        have e : (UInt8.ofNat b).toNat = b := by simp; omega
        refine ⟨UInt8.ofNat b :: bs, by simp only [enc, h1, e], by simp [h2], fun cs hc => ?_⟩
        cases cs with
        | nil => have := hc.1; simp at this
        | cons c cs =>
          have hh := hc.head.int_inv
          rw [hh, h3 cs hc.tail]
          simp only [List.map_cons, e]
          rfl
      · cases hn
    · cases hn

theorem foldl_bytes : ∀ (bs : List UInt8) (r : ByteArray), ((bs.map fun b => ((b.toNat : Nat) : Int)).foldl (fun r n => r.push (UInt8.ofNat n.toNat)) r).data.toList = r.data.toList ++ bs := by
  intro bs
  induction bs with
  | nil => intro r; simp
  | cons b bs ih =>
    intro r
    simp only [List.map_cons, List.foldl_cons, ih]
    simp

theorem bytes_string_sound {n : Nat} {a : Addr} {cap : Nat} {vs : List AV} {cvs : List Value} {c : Nat} (hl : (loadCells a n).run P w = .ok cvs.toArray w) (hr : VRs φ vs cvs) (he : encA vs = some c)
    (hn : vs.length = n) : ∃ r, (Conv.bytesToString (.slice (some a) n cap)).run P w = .ok r w ∧ VR φ (.str n c) r := by
  obtain ⟨bs, h1, h2, h3⟩ := encA_spec (φ := φ) vs c he
  have h4 := h3 cvs hr
  have := run_bytesToString (P := P) w a n cap (bs.map fun b => ((b.toNat : Nat) : Int)) (by rw [hl, h4]; simp)
  refine ⟨_, this, ?_⟩
  refine .str _ _ _ ?_ ?_
  · rw [foldl_bytes]; simp [h2, hn]
  · rw [foldl_bytes]; simp [h1]

end Go.Abs

namespace Go.Abs

variable {P : Program} {h : T AB} {nx : Nat} {φ : Ren} {w : World}

theorem Rel.shape (r : Rel h nx φ w) {b : Nat} {cs : T AV} {n : Nat} {elem : TypeId} {opn fz : Bool} (hb : h.get b = some (.cells cs n elem opn fz)) {l : Loc} (hl : φ b = some l) :
    w.shape? l.blk = some (elem, l.sz) ∧ l.dlt + n ≤ l.sz ∧ (opn = false → l.dlt = 0 ∧ l.sz = n) := by
  obtain ⟨ob, ho, hbr⟩ := r.of_blk hb hl
  obtain ⟨c, lo, hi, rfl, h2, h3, h4, h5, h6⟩ := hbr.cells_inv
  exact ⟨by simp [World.shape?, ho, h2], h3, h4⟩

theorem run_viewAt {b : Nat} {e : TypeId} {n : Nat} (hs : w.shape? b = some (e, n)) : (viewAt b).run P w = .ok none w := by
  simp [viewAt, hs]

theorem run_seenAt {a : Addr} {e : TypeId} {n : Nat} (hs : w.shape? a.block = some (e, n)) : (Conv.seenAt a).run P w = .ok a w := by
  simp [Conv.seenAt, run_viewAt hs]

theorem conv_sound (r : Rel h nx φ w) {src dst : TypeId} {x v : AV} {c : Value} (hv : convA P h src dst x = some v) (hx : VR φ x c) :
    ∃ cv, (convert src dst c).run P w = .ok cv w ∧ VR φ v cv := by
  unfold convA at hv
  split at hv
  · rename_i k0 k k1 n hs hd
    cases hv
    obtain rfl := hx.int_inv
    refine ⟨.int k (k.wrap n), ?_, by rw [wrapA_eq]; exact .int _ _⟩
    simp [convert, run_underlying _ _ hs, run_underlying _ _ hd, Conv.intToInt]
  · rename_i n m hs hd
    cases hv
    obtain ⟨s, rfl, s1, s2⟩ := hx.str_inv
    refine ⟨.string s, ?_, hx⟩
    simp [convert, run_underlying _ _ hs, run_underlying _ _ hd]
  · rename_i e hs hd
    split at hv
    · rename_i he
      split at hv
      · cases hv; cases hx
        rw [run_convert_bytes_string w src dst e _ _ _ hs he hd]
        refine ⟨.string .empty, ?_, .str _ _ _ rfl rfl⟩
        simp [Conv.bytesToString]
      · rename_i b o n cap
        split at hv
        · rename_i cs q e' opn fz hb
          split at hv
          · rename_i l hg
            split at hv
            · rename_i c' hc
              cases hv
              cases hx with
              | slice _ _ _ _ lc hl =>
                rw [run_convert_bytes_string w src dst e _ _ _ hs he hd]
                obtain ⟨cvs, h1, h2⟩ := r.loadCells (P := P) hb hl hg
                exact bytes_string_sound h2 h1 hc (getN_len _ _ _ hg)
            · cases hv
          · cases hv
        · cases hv
      · rename_i b o n es
        split at hv
        · cases hv
          have he' : ∀ a cap, ∃ cv, (convert src dst (.slice (some a) 0 cap)).run P w = .ok cv w ∧ VR φ (.str 0 0) cv := by
            intro a cap
            rw [run_convert_bytes_string w src dst e _ _ _ hs he hd]
            refine bytes_string_sound (vs := []) (cvs := []) ?_ VRs.nil rfl rfl
            simp [Go.loadCells, loadCellsFrom]
          cases hx with
          | sliceU _ _ _ _ cap l hl h1 h2 => exact he' _ _
          | sliceE _ _ _ _ l hl h1 => exact he' _ _
        · rename_i n
          split at hv
          · rename_i cs q e' opn fz hb
            split at hv
            · rename_i l hg
              split at hv
              · rename_i c' hc
                cases hv
                cases hx with
                | sliceU _ _ _ _ cap lc hl _ _ =>
                  rw [run_convert_bytes_string w src dst e _ _ _ hs he hd]
                  obtain ⟨cvs, h1, h2⟩ := r.loadCells (P := P) hb hl hg
                  exact bytes_string_sound h2 h1 hc (getN_len _ _ _ hg)
              · cases hv
            · cases hv
          · cases hv
      · cases hv
    · cases hv
  · rename_i t b o hs hd
    split at hv
    · rename_i cs n e opn fz hb
      split at hv
      · rename_i m hm
        obtain ⟨hlt, hv2⟩ := cond_none hv
        have hlt : o < n := by simpa [Nat.blt_eq] using hlt
        cases hv2
        cases hx with
        | ptr _ _ l hl =>
          obtain ⟨s1, s2, s3⟩ := r.shape hb hl
          refine ⟨_, ?_, .ptr _ _ l hl⟩
          have hsz : ¬ l.sz ≤ l.dlt + o := by omega
          simp only [convert, Sem.run_bind, run_underlying _ _ hs, run_underlying _ _ hd, Result.andThen_ok, Conv.unsafePointer]
          rw [run_seenAt (a := ⟨l.blk, l.dlt + o, none⟩) s1]
          simp [cellsIn, s1, run_sizeOf _ _ hm, hsz]
      · cases hv
    · cases hv
  · rename_i u b o hs hd
    split at hv
    · rename_i cs n e fz hb
      split at hv
      · rename_i m hm
        obtain ⟨hli, hv2⟩ := cond_none hv
        cases hv2
        cases hx with
        | ptr _ _ l hl =>
          obtain ⟨s1, s2, s3⟩ := r.shape hb hl
          obtain ⟨s4, s5⟩ := s3 rfl
          refine ⟨_, ?_, .ptr _ _ l hl⟩
          simp only [convert, Sem.run_bind, run_underlying _ _ hs, run_underlying _ _ hd, Result.andThen_ok, Conv.unsafePointer]
          rw [run_seenAt (a := ⟨l.blk, l.dlt + o, none⟩) s1]
          have e1 : l.dlt + o = o := by omega
          simp [run_sizeOf _ _ hm, variablesAt, s1, s5, e1, hli]
      · cases hv
    · cases hv
  · cases hv

end Go.Abs

namespace Go.Abs

variable {P : Program} {h : T AB} {nx : Nat} {φ : Ren} {w : World}

/-! ### slices -/

theorem bound_sound' {v : AV} {y i : Nat} {c : Value} (hb : boundA v y = some i) (hv : VR φ v c) (code : BoundsCode) (y' : Nat) (hy : y ≤ y') :
    (Instr.sliceBound c y' code).run P w = .ok i w ∧ i ≤ y := by
  unfold boundA at hb
  split at hb
  · rename_i k i0
    obtain rfl := hv.int_inv
    obtain ⟨hle, hb2⟩ := cond_none hb
    cases hb2
    have hle := Nat.le_of_ble_eq_true hle
    refine ⟨?_, hle⟩
    simp [Instr.sliceBound, asIntOf]
    omega
  · cases hb
theorem bound_sound {v : AV} {y i : Nat} {c : Value} (hb : boundA v y = some i) (hv : VR φ v c) (code : BoundsCode) : (Instr.sliceBound c y code).run P w = .ok i w ∧ i ≤ y :=
  bound_sound' hb hv code y (Nat.le_refl _)

def VRo (φ : Ren) : Option AV → Option Value → Prop
  | none, none => True
  | some v, some c => VR φ v c
  | _, _ => False

/-- Without a third index. -/
theorem bounds_sound {isS : Bool} {len cap l r : Nat} {lo hi : Option AV} {clo chi : Option Value} (hb : boundsA len cap lo hi = some (l, r)) (h1 : VRo φ lo clo) (h2 : VRo φ hi chi)
    (cap' : Nat) (hcap : cap ≤ cap') (hlen : len ≤ cap) :
    (Instr.sliceBounds isS len cap' clo chi none).run P w = .ok (l, r, cap') w ∧ l ≤ r ∧ r ≤ cap := by
  unfold boundsA at hb
  have key : ∀ r0, (match hi with
      | some v => boundA v cap
      | none => some len) = some r0 → (∀ code, (match (chi, (none : Option Value)) with
      | (some v, none) => Instr.sliceBound v cap' code
      | _ => pure len : Sem Nat).run P w = .ok r0 w) ∧ r0 ≤ cap := by
    intro r0 hr0
    cases hi with
    | none =>
      cases chi with
      | none => cases hr0; exact ⟨fun _ => rfl, hlen⟩
      | some c => exact h2.elim
    | some v =>
      cases chi with
      | none => exact h2.elim
      | some c =>
        have h2' : VR φ v c := h2
        have hr0' : boundA v cap = some r0 := hr0
        exact ⟨fun code => (bound_sound' (P := P) (w := w) hr0' h2' code cap' hcap).1, (bound_sound (P := P) (w := w) hr0' h2' .index).2⟩
  split at hb
  · cases hb
  · rename_i r0 hr0
    obtain ⟨k1, k2⟩ := key r0 hr0
    have kk : (Instr.sliceBounds isS len cap' clo chi none).run P w = ((match clo with
        | some v => Instr.sliceBound v r0 .sliceB
        | none => pure 0 : Sem Nat).run P w).andThen fun l w => .ok (l, r0, cap') w := by
      cases chi with
      | none =>
        have := k1 .index
        simp at this
        simp only [Instr.sliceBounds, Sem.run_bind, Sem.run_pure, Result.andThen_ok]
        subst this
        cases clo <;> simp only [Sem.run_bind, Sem.run_pure] <;> rfl
      | some c =>
        simp only [Instr.sliceBounds, Sem.run_bind, Sem.run_pure, Result.andThen_ok]
        have := k1 (if isS = true then .sliceAcap else .sliceAlen)
        simp only at this
        rw [this]
        cases clo <;> simp only [Sem.run_bind, Sem.run_pure] <;> rfl
    rw [kk]
    cases lo with
    | none =>
      cases clo with
      | none => cases hb; exact ⟨rfl, Nat.zero_le _, k2⟩
      | some c => exact h1.elim
    | some v =>
      cases clo with
      | none => exact h1.elim
      | some c =>
        simp only at hb
        split at hb
        · rename_i l0 hl0
          cases hb
          have h1' : VR φ v c := h1
          obtain ⟨b1, b2⟩ := bound_sound (P := P) (w := w) hl0 h1' .sliceB
          simp only [b1, Result.andThen_ok]
          exact ⟨trivial, b2, k2⟩
        · cases hb

/-- With a third index. -/
theorem bounds3_sound {isS : Bool} {len cap m l r : Nat} {mx hi : AV} {lo : Option AV} {cm ch : Value} {clo : Option Value} (hm : boundA mx cap = some m) (hr : boundA hi m = some r)
    (hl : (match lo with
      | some lv => boundA lv r
      | none => some 0) = some l) (h1 : VRo φ lo clo) (h2 : VR φ hi ch) (h3 : VR φ mx cm) (cap' : Nat) (hcap : cap ≤ cap') :
    (Instr.sliceBounds isS len cap' clo (some ch) (some cm)).run P w = .ok (l, r, m) w ∧ l ≤ r ∧ r ≤ m ∧ m ≤ cap := by
  have hmc := (bound_sound (P := P) (w := w) hm h3 .index).2
  have hm' : ∀ code, (Instr.sliceBound cm cap' code).run P w = .ok m w := fun code => (bound_sound' hm h3 code cap' hcap).1
  obtain ⟨_, hrm⟩ := bound_sound (P := P) (w := w) hr h2 .index
  have hr' := fun code => (bound_sound (P := P) (w := w) hr h2 code).1
  simp only [Instr.sliceBounds, Sem.run_bind, hm', hr', Result.andThen_ok]
  cases lo with
  | none =>
    cases clo with
    | none => cases hl; exact ⟨rfl, Nat.zero_le _, hrm, hmc⟩
    | some c => exact h1.elim
  | some v =>
    cases clo with
    | none => exact h1.elim
    | some c =>
      have h1' : VR φ v c := h1
      have hl' : boundA v r = some l := hl
      obtain ⟨b1, b2⟩ := bound_sound (P := P) (w := w) hl' h1' .slice3C
      refine ⟨?_, b2, hrm, hmc⟩
      simp [b1]

end Go.Abs

namespace Go.Abs

variable {P : Program} {h : T AB} {nx : Nat} {φ : Ren} {w : World}

theorem sub_mul_add {c l es : Nat} (h : l ≤ c) : l * es + (c - l) * es = c * es := by
  rw [← Nat.add_mul]; congr 1; omega

theorem slice_sound (r : Rel h nx φ w) {t : TypeId} {x v : AV} {lo hi mx : Option AV} {c : Value} {clo chi cmx : Option Value} (hv : sliceA P h t x lo hi mx = some v)
    (hx : VR φ x c) (h1 : VRo φ lo clo) (h2 : VRo φ hi chi) (h3 : VRo φ mx cmx) : ∃ cv, (Instr.sliceAt t c clo chi cmx).run P w = .ok cv w ∧ VR φ v cv := by
  unfold sliceA at hv
  split at hv
  · rename_i n q hu
    obtain ⟨s, rfl, s1, s2⟩ := hx.str_inv
    split at hv
    · cases hv
    · cases cmx with
      | some _ => exact h3.elim
      | none =>
        split at hv
        · rename_i l r0 hb
          cases hv
          have hsz : s.size = n := (size_len s).trans s1
          obtain ⟨b1, b2, b3⟩ := bounds_sound (P := P) (w := w) (isS := false) hb h1 h2 n (Nat.le_refl _) (Nat.le_refl _)
          refine ⟨.string (s.extract l r0), ?_, ?_⟩
          · simp only [Instr.sliceAt, Sem.run_bind, run_underlying _ _ hu, Result.andThen_ok, Instr.slice, hsz]
            simp only [Option.isSome_none, Bool.false_eq_true, if_false, Sem.run_bind, Sem.run_pure, Result.andThen_ok, b1]
          · have e : (s.extract l r0).data.toList = (s.data.toList.drop l).take (r0 - l) := by simp [List.take_drop]
            refine .str _ _ _ ?_ ?_
            · rw [e]; simp only [List.length_take, List.length_drop]; omega
            · rw [e, enc_take, enc_drop, s2]
        · cases hv
  · rename_i e hu
    cases hx
    split at hv
    · cases hv
    · cases cmx with
      | some _ => exact h3.elim
      | none =>
        split at hv
        · rename_i p es hb hes
          obtain ⟨l, r0⟩ := p
          cases hv
          obtain ⟨b1, b2, b3⟩ := bounds_sound (P := P) (w := w) (isS := true) hb h1 h2 0 (Nat.le_refl _) (Nat.le_refl _)
          refine ⟨.slice none 0 0, ?_, .nilSlice⟩
          have e1 : l = 0 := by omega
          have e2 : r0 = 0 := by omega
          subst e1; subst e2
          simp [Instr.sliceAt, run_underlying _ _ hu, Instr.slice, b1, run_sizeOf _ _ hes]
        · cases hv
  · rename_i e b o len cap hu
    cases hx with
    | slice _ _ _ _ lc hl =>
      split at hv
      · rename_i es hes
        split at hv
        · rename_i m
          cases cmx with
          | none => exact h3.elim
          | some cm =>
            split at hv
            · rename_i m' hm
              split at hv
              · rename_i hv0
                cases chi with
                | none => exact h2.elim
                | some ch =>
                  split at hv
                  · rename_i r0 hr
                    split at hv
                    · rename_i l hl0
                      cases hv
                      have hb := bounds3_sound (P := P) (w := w) (isS := true) (len := len) hm hr hl0 h1 h2 h3 cap (Nat.le_refl _)
                      obtain ⟨b1, b2, b3, b4⟩ := hb
                      refine ⟨_, ?_, .slice _ _ _ _ lc hl⟩
                      simp only [Instr.sliceAt, Sem.run_bind, run_underlying _ _ hu, Result.andThen_ok, Instr.slice, b1, run_sizeOf _ _ hes, Sem.run_pure]
                      by_cases e1 : m' = l
                      · subst e1
                        simp
                      · have : Nat.beq m' l = false := by
                          cases hx : Nat.beq m' l
                          · rfl
                          · exact absurd (beqN.1 hx) e1
                        simp [e1, this, Addr.add_none, Nat.add_assoc]
                    · cases hv
                  · cases hv
              · cases hv
            · cases hv
        · cases cmx with
          | some _ => exact h3.elim
          | none =>
            obtain ⟨hlen, hv2⟩ := cond_none hv
            have hlen := Nat.le_of_ble_eq_true hlen
            split at hv2
            · rename_i l r0 hb
              cases hv2
              obtain ⟨b1, b2, b3⟩ := bounds_sound (P := P) (w := w) (isS := true) hb h1 h2 cap (Nat.le_refl _) hlen
              refine ⟨_, ?_, .slice _ _ _ _ lc hl⟩
              simp only [Instr.sliceAt, Sem.run_bind, run_underlying _ _ hu, Result.andThen_ok, Instr.slice, b1, run_sizeOf _ _ hes, Sem.run_pure]
              by_cases e1 : cap = l
              · subst e1
                simp
              · have : Nat.beq cap l = false := by
                  cases hx : Nat.beq cap l
                  · rfl
                  · exact absurd (beqN.1 hx) e1
                simp [e1, this, Addr.add_none, Nat.add_assoc]
            · cases hv2
      · cases hv
  · rename_i e b o len es' hu
    split at hv
    · rename_i es cs n e0 opn fz hes hb
      obtain ⟨he, hv2⟩ := cond_none hv
      have he := beqN.1 he
      subst he
      have hK : ∀ (lc : Loc) (cap : Nat), φ b = some lc → lc.dlt + o + cap * (es + 1) = lc.sz → (n - o) / (es + 1) ≤ cap := by
        intro lc cap hl hs
        obtain ⟨_, s2, _⟩ := r.shape hb hl
        have : n - o ≤ cap * (es + 1) := by omega
        exact Nat.div_le_of_le_mul (by rw [Nat.mul_comm]; exact this)
      split at hv2
      · rename_i m
        cases cmx with
        | none => exact h3.elim
        | some cm =>
          split at hv2
          · rename_i m' hm
            split at hv2
            · rename_i hv0
              cases chi with
              | none => exact h2.elim
              | some ch =>
                split at hv2
                · rename_i r0 hr
                  split at hv2
                  · rename_i l hl0
                    obtain ⟨hne, hv3⟩ := cond_none' hv2
                    have hne : m' ≠ l := fun e1 => by rw [beqN.2 e1] at hne; cases hne
                    cases hv3
                    cases hx with
                    | sliceU _ _ _ _ cap lc hl hc hs =>
                      obtain ⟨b1, b2, b3, b4⟩ := bounds3_sound (P := P) (w := w) (isS := true) (len := len) hm hr hl0 h1 h2 h3 cap (hK lc cap hl hs)
                      refine ⟨_, ?_, .slice _ _ _ _ lc hl⟩
                      simp only [Instr.sliceAt, Sem.run_bind, run_underlying _ _ hu, Result.andThen_ok, Instr.slice, b1, run_sizeOf _ _ hes, Sem.run_pure]
                      simp [hne, Addr.add_none, Nat.add_assoc]
                    | sliceE _ _ _ off lc hl ho =>
                      have hk0 := hK lc 0 hl (by omega)
                      obtain ⟨b1, b2, b3, b4⟩ := bounds3_sound (P := P) (w := w) (isS := true) (len := 0) hm hr hl0 h1 h2 h3 0 hk0
                      omega
                  · cases hv2
                · cases hv2
            · cases hv2
          · cases hv2
      · cases cmx with
        | some _ => exact h3.elim
        | none =>
          obtain ⟨hlen, hv3⟩ := cond_none hv2
          have hlen := Nat.le_of_ble_eq_true hlen
          split at hv3
          · rename_i l r0 hbd
            cases hv3
            cases hx with
            | sliceU _ _ _ _ cap lc hl hc hs =>
              obtain ⟨b1, b2, b3⟩ := bounds_sound (P := P) (w := w) (isS := true) hbd h1 h2 cap (hK lc cap hl hs) hlen
              have hlc : l ≤ cap := by have := hK lc cap hl hs; omega
              have hmul := sub_mul_add (es := es + 1) hlc
              simp only [Instr.sliceAt, Sem.run_bind, run_underlying _ _ hu, Result.andThen_ok, Instr.slice, b1, run_sizeOf _ _ hes, Sem.run_pure]
              by_cases e1 : cap = l
              · subst e1
                have er : r0 - cap = 0 := by have := hK lc cap hl hs; omega
                refine ⟨_, rfl, ?_⟩
                simp only [if_true, er, Nat.sub_self]
                exact .sliceE _ _ _ _ lc hl (by omega)
              · refine ⟨_, rfl, ?_⟩
                rw [if_neg e1]
                simp only [Option.map_some, Addr.add_none]
                rw [Nat.add_assoc]
                exact .sliceU _ _ _ _ _ lc hl (by have := hK lc cap hl hs; omega) (by omega)
            | sliceE _ _ _ off lc hl ho =>
              have hk0 := hK lc 0 hl (by omega)
              obtain ⟨b1, b2, b3⟩ := bounds_sound (P := P) (w := w) (isS := true) hbd h1 h2 0 hk0 hlen
              have el : l = 0 := by omega
              have er : r0 = 0 := by omega
              subst el; subst er
              simp only [Instr.sliceAt, Sem.run_bind, run_underlying _ _ hu, Result.andThen_ok, Instr.slice, b1, run_sizeOf _ _ hes, Sem.run_pure]
              refine ⟨_, rfl, ?_⟩
              simp only [if_true, Nat.sub_self]
              exact .sliceE _ _ _ _ lc hl (by omega)
          · cases hv3
    · cases hv
  · rename_i n e b o hu
    cases hx with
    | ptr _ _ lc hl =>
      split at hv
      · rename_i es hes
        split at hv
        · cases hv
        · cases cmx with
          | some _ => exact h3.elim
          | none =>
            split at hv
            · rename_i l r0 hb
              cases hv
              obtain ⟨b1, b2, b3⟩ := bounds_sound (P := P) (w := w) (isS := false) hb h1 h2 n (Nat.le_refl _) (Nat.le_refl _)
              refine ⟨_, ?_, .slice _ _ _ _ lc hl⟩
              simp only [Instr.sliceAt, Sem.run_bind, run_underlying _ _ hu, Result.andThen_ok, Instr.sureAddr, Sem.run_pure, b1, run_sizeOf _ _ hes]
              by_cases e1 : n = l
              · subst e1
                simp
              · have : Nat.beq n l = false := by
                  cases hx : Nat.beq n l
                  · rfl
                  · exact absurd (beqN.1 hx) e1
                simp [e1, this, Addr.add_none, Nat.add_assoc]
            · cases hv
      · cases hv
  · cases hv

end Go.Abs

namespace Go.Abs

variable {P : Program} {h : T AB} {nx : Nat} {φ : Ren} {w : World}

/-! ### maps -/

/-- Entries as they lie. -/
def EsR (φ : Ren) (es : List AME) (ces : List MapEntry) : Prop :=
  es.length = ces.length ∧ ∀ (i : Nat) (e : AME) (c : MapEntry), es[i]? = some e → ces[i]? = some c → VR φ e.key c.key ∧ VR φ e.val c.val

theorem EsR.cons_inv {e : AME} {es : List AME} {c : MapEntry} {ces : List MapEntry} (hr : EsR φ (e :: es) (c :: ces)) : VR φ e.key c.key ∧ VR φ e.val c.val ∧ EsR φ es ces :=
  ⟨(hr.2 0 e c rfl rfl).1, (hr.2 0 e c rfl rfl).2, by have := hr.1; simpa using this, fun i e' c' h1 h2 => hr.2 (i + 1) e' c' (by simpa using h1) (by simpa using h2)⟩

def ResR (φ : Ren) : Option (Nat × AV) → Option (Nat × Value) → Prop
  | none, none => True
  | some (i, v), some (j, c) => i = j ∧ VR φ v c
  | _, _ => False

theorem findAsking_sound {kt : TypeId} {k : AV} {ck : Value} (hk : VR φ k ck) : ∀ (es : List AME) (ces : List MapEntry) (i : Nat) (res : Option (Nat × AV)), EsR φ es ces → findA P kt k es i = some res →
    ∃ res', (Instr.findAsking kt ck ces i).run P w = .ok res' w ∧ ResR φ res res' := by
  intro es
  induction es with
  | nil =>
    intro ces i res hr hf
    cases ces with
    | nil => simp only [findA] at hf; cases hf; exact ⟨none, rfl, trivial⟩
    | cons c ces => have := hr.1; simp at this
  | cons e es ih =>
    intro ces i res hr hf
    cases ces with
    | nil => have := hr.1; simp at this
    | cons c ces =>
      obtain ⟨h1, h2, h3⟩ := hr.cons_inv
      simp only [findA] at hf
      simp only [Instr.findAsking, Sem.run_bind]
      split at hf
      · rename_i he
        cases hf
        rw [eqA_bin he hk h1]
        exact ⟨some (i, c.val), rfl, rfl, h2⟩
      · rename_i he
        rw [eqA_bin he hk h1]
        exact ih ces (i + 1) res h3 hf
      · cases hf

theorem sameNow_sound {kt : TypeId} {k e : AV} {ck ce : Value} {kind : TypeDesc} {b b' : Bool} (hu : P.underlying kt = some kind) (hk : VR φ k ck) (he : VR φ e ce) (hq : eqA P kt 3 k e = some b)
    (hn : Instr.sameNow kind ck ce = some b') : b = b' := by
  simp only [eqA, hu] at hq
  unfold Instr.sameNow at hn
  split at hn
  · split at hn
    · cases hn
      subst_vars
      cases hk; cases he
      simp only at hq
      obtain ⟨_, hq2⟩ := cond_none hq
      cases hq2
      rw [eqI_iff]
    · cases hn
  · cases hn
    cases hk with
    | str n c s h1 h2 =>
      cases he with
      | str m d u h3 h4 =>
        simp only at hq
        cases hq
        rw [← str_beq h1 h2 h3 h4, beq_toListBytes]
  · cases hn
    cases hk; cases he
    simp only at hq
    cases hq
    rw [boolEq]
  · cases hn

theorem findNow_sound {kt : TypeId} {k : AV} {ck : Value} {kind : TypeDesc} (hu : P.underlying kt = some kind) (hk : VR φ k ck) : ∀ (es : List AME) (ces : List MapEntry) (i : Nat) (res : Option (Nat × AV)) (r : Option (Nat × Value)),
    EsR φ es ces → findA P kt k es i = some res → Instr.findNow kind ck ces i = some r → ResR φ res r := by
  intro es
  induction es with
  | nil =>
    intro ces i res r hr hf hn
    cases ces with
    | nil => simp only [findA] at hf; cases hf; simp only [Instr.findNow] at hn; cases hn; trivial
    | cons c ces => have := hr.1; simp at this
  | cons e es ih =>
    intro ces i res r hr hf hn
    cases ces with
    | nil => have := hr.1; simp at this
    | cons c ces =>
      obtain ⟨h1, h2, h3⟩ := hr.cons_inv
      simp only [findA] at hf
      simp only [Instr.findNow] at hn
      split at hn
      · rename_i hs
        cases hn
        split at hf
        · cases hf; exact ⟨rfl, h2⟩
        · rename_i he; have := sameNow_sound hu hk h1 he hs; cases this
        · cases hf
      · rename_i hs
        split at hf
        · rename_i he; have := sameNow_sound hu hk h1 he hs; cases this
        · exact ih ces (i + 1) res r h3 hf hn
        · cases hf
      · cases hn

theorem findKey_sound {kt : TypeId} {k : AV} {ck : Value} (hk : VR φ k ck) {kind : TypeDesc} (hu : P.underlying kt = some kind) {es : List AME} {ces : List MapEntry} {res : Option (Nat × AV)} (hr : EsR φ es ces)
    (hf : findA P kt k es 0 = some res) : ∃ res', (Instr.findKey kt ck ces).run P w = .ok res' w ∧ ResR φ res res' := by
  simp only [Instr.findKey, Sem.run_bind, run_underlying _ _ hu, Result.andThen_ok]
  cases hn : Instr.findNow kind ck ces 0 with
  | some r => exact ⟨r, rfl, findNow_sound hu hk es ces 0 res r hr hf hn⟩
  | none => exact findAsking_sound hk es ces 0 res hr hf

theorem checkKey_int {t : TypeId} {k : IntKind} {c : Value} (hu : P.underlying t = some (.int k)) (e : Bool) (d : Nat) : (Instr.checkKey e (d + 1) t c).run P w = .ok () w := by
  rw [Instr.checkKey]
  simp only [Sem.run_bind, run_underlying _ _ hu, Result.andThen_ok]
  rfl
theorem checkKey_str {t : TypeId} {c : Value} (hu : P.underlying t = some .string) (e : Bool) (d : Nat) : (Instr.checkKey e (d + 1) t c).run P w = .ok () w := by
  rw [Instr.checkKey]
  simp only [Sem.run_bind, run_underlying _ _ hu, Result.andThen_ok]
  rfl

theorem checkKey_sound {kt : TypeId} {k : AV} {ck : Value} (hk : VR φ k ck) (ho : keyOk P kt k = true) (e : Bool) (d : Nat) (hd : 2 ≤ d) : (Instr.checkKey e d kt ck).run P w = .ok () w := by
  obtain ⟨d, rfl⟩ : ∃ m, d = m + 1 + 1 := ⟨d - 2, by omega⟩
  unfold keyOk at ho
  split at ho
  · rename_i hu
    exact checkKey_int hu _ _
  · rename_i hu
    exact checkKey_str hu _ _
  · rename_i fs cs hu
    obtain ⟨ca, rfl, ra⟩ := hk.agg_inv
    rw [Instr.checkKey]
    simp only [Sem.run_bind, run_underlying _ _ hu, Result.andThen_ok]
    rw [← Array.forIn_toList]
    rw [List.all_eq_true] at ho
    generalize fs.toList = l at ho
    clear hu
    induction l with
    | nil => simp
    | cons f l ih =>
      have hf := ho f (by simp)
      simp only [List.forIn_cons, Sem.run_bind]
      have ih2 := ih (fun x hx => ho x (by simp [hx]))
      by_cases hn : f.name ≠ "_"
      · simp only [hn, ne_eq, not_false_eq_true, if_true]
        split at hf
        · rename_i hu hv
          obtain ⟨c1, p1, r1⟩ := part_plain (P := P) (w := w) hu rfl ra hv
          simp only [Sem.run_bind, p1, Result.andThen_ok, checkKey_int hu, Sem.run_pure]
          exact ih2
        · rename_i hu hv
          obtain ⟨c1, p1, r1⟩ := part_plain (P := P) (w := w) hu rfl ra hv
          simp only [Sem.run_bind, p1, Result.andThen_ok, checkKey_str hu, Sem.run_pure]
          exact ih2
        · cases hf
      · rw [if_neg hn]
        simp only [Sem.run_pure, Result.andThen_ok]
        exact ih2
  · cases ho

/-! ### entries in whatever order -/

theorem noKey_spec {kt : TypeId} {k : AV} : ∀ (es : List AME), allKeys.noKey P kt k es = true → ∀ e ∈ es, eqA P kt 3 k e.key = some false := by
  intro es
  induction es with
  | nil => intro _ e he; simp at he
  | cons e es ih =>
    intro hn x hx
    simp only [allKeys.noKey] at hn
    split at hn
    · rename_i h0
      rcases List.mem_cons.1 hx with rfl | hx
      · exact h0
      · exact ih hn x hx
    · cases hn

theorem allKeys_spec {kt : TypeId} {k : AV} : ∀ (es : List AME), allKeys P kt k es = true → (∀ e ∈ es, ∃ b, eqA P kt 3 k e.key = some b) ∧
    ∀ e ∈ es, ∀ e' ∈ es, eqA P kt 3 k e.key = some true → eqA P kt 3 k e'.key = some true → e = e' := by
  intro es
  induction es with
  | nil => intro _; exact ⟨fun e he => by simp at he, fun e he => by simp at he⟩
  | cons e es ih =>
    intro ha
    simp only [allKeys] at ha
    split at ha
    · rename_i h0
      rw [Bool.and_eq_true] at ha
      have hno := noKey_spec es ha.1
      obtain ⟨i1, i2⟩ := ih ha.2
      refine ⟨fun x hx => ?_, fun x hx y hy h1 h2 => ?_⟩
      · rcases List.mem_cons.1 hx with rfl | hx
        · exact ⟨_, h0⟩
        · exact i1 x hx
      · rcases List.mem_cons.1 hx with rfl | hx
        · rcases List.mem_cons.1 hy with rfl | hy
          · rfl
          · rw [hno y hy] at h2; cases h2
        · rw [hno x hx] at h1; cases h1
    · rename_i h0
      obtain ⟨i1, i2⟩ := ih ha
      refine ⟨fun x hx => ?_, fun x hx y hy h1 h2 => ?_⟩
      · rcases List.mem_cons.1 hx with rfl | hx
        · exact ⟨_, h0⟩
        · exact i1 x hx
      · rcases List.mem_cons.1 hx with rfl | hx
        · rw [h0] at h1; cases h1
        · rcases List.mem_cons.1 hy with rfl | hy
          · rw [h0] at h2; cases h2
          · exact i2 x hx y hy h1 h2
    · cases ha

theorem findA_none {kt : TypeId} {k : AV} : ∀ (es : List AME) (i : Nat), (∀ e ∈ es, eqA P kt 3 k e.key = some false) → findA P kt k es i = some none := by
  intro es
  induction es with
  | nil => intro i _; rfl
  | cons e es ih =>
    intro i ha
    simp only [findA, ha e (by simp)]
    exact ih (i + 1) (fun x hx => ha x (by simp [hx]))

theorem findA_none_iff {kt : TypeId} {k : AV} : ∀ (es : List AME) (i : Nat), findA P kt k es i = some none → ∀ e ∈ es, eqA P kt 3 k e.key = some false := by
  intro es
  induction es with
  | nil => intro i _ e he; simp at he
  | cons e es ih =>
    intro i hf x hx
    simp only [findA] at hf
    split at hf
    · cases hf
    · rename_i h0
      rcases List.mem_cons.1 hx with rfl | hx
      · exact h0
      · exact ih (i + 1) hf x hx
    · cases hf

theorem findA_some {kt : TypeId} {k : AV} : ∀ (es : List AME) (i j : Nat) (v : AV), findA P kt k es i = some (some (j, v)) → ∃ e ∈ es, eqA P kt 3 k e.key = some true ∧ e.val = v := by
  intro es
  induction es with
  | nil => intro i j v hf; simp [findA] at hf
  | cons e es ih =>
    intro i j v hf
    simp only [findA] at hf
    split at hf
    · rename_i h0; cases hf; exact ⟨e, by simp, h0, rfl⟩
    · obtain ⟨x, h1, h2, h3⟩ := ih (i + 1) j v hf
      exact ⟨x, by simp [h1], h2, h3⟩
    · cases hf

theorem findA_total {kt : TypeId} {k : AV} : ∀ (es : List AME) (i : Nat), (∀ e ∈ es, ∃ b, eqA P kt 3 k e.key = some b) → ∃ r, findA P kt k es i = some r := by
  intro es
  induction es with
  | nil => intro i _; exact ⟨none, rfl⟩
  | cons e es ih =>
    intro i ha
    obtain ⟨b, hb⟩ := ha e (by simp)
    cases b with
    | true => exact ⟨some (i, e.val), by simp only [findA, hb]⟩
    | false => obtain ⟨r, hr⟩ := ih (i + 1) (fun x hx => ha x (by simp [hx])); exact ⟨r, by simp only [findA, hb, hr]⟩

theorem findA_perm {kt : TypeId} {k : AV} {es es' : List AME} (hp : es'.Perm es) (ha : allKeys P kt k es = true) {r : Option (Nat × AV)} (hf : findA P kt k es 0 = some r) :
    ∃ r', findA P kt k es' 0 = some r' ∧ r'.map (·.2) = r.map (·.2) := by
  obtain ⟨a1, a2⟩ := allKeys_spec es ha
  obtain ⟨r', hr'⟩ := findA_total (P := P) (kt := kt) (k := k) es' 0 (fun e he => a1 e (hp.mem_iff.1 he))
  refine ⟨r', hr', ?_⟩
  cases r' with
  | none =>
    have h1 := findA_none_iff es' 0 hr'
    have h2 := findA_none (P := P) (kt := kt) (k := k) es 0 (fun e he => h1 e (hp.mem_iff.2 he))
    rw [h2] at hf; cases hf; rfl
  | some p =>
    obtain ⟨j, v⟩ := p
    obtain ⟨e, he, h1, h2⟩ := findA_some es' 0 j v hr'
    have he' := hp.mem_iff.1 he
    cases r with
    | none => have := findA_none_iff es 0 hf e he'; rw [h1] at this; cases this
    | some q =>
      obtain ⟨j', v'⟩ := q
      obtain ⟨e2, he2, h3, h4⟩ := findA_some es 0 j' v' hf
      have := a2 e he' e2 he2 h1 h3
      subst this
      simp [← h2, ← h4]

end Go.Abs

namespace Go.Abs

variable {P : Program} {h : T AB} {nx : Nat} {φ : Ren} {w : World}

mutual
theorem ofVal_sound {φ : Ren} : ∀ (v : Value) (a : AV), ofVal v = some a → VR φ a v
  | .bool b, a, ha => by simp only [ofVal] at ha; cases ha; exact .bool b
  | .int k n, a, ha => by simp only [ofVal] at ha; cases ha; exact .int k n
  | .float .., a, ha => by simp [ofVal] at ha
  | .complex .., a, ha => by simp [ofVal] at ha
  | .string s, a, ha => by simp only [ofVal] at ha; cases ha; exact .str _ _ s rfl rfl
  | .pointer none, a, ha => by simp only [ofVal] at ha; cases ha; exact .nilPtr
  | .pointer (some p), a, ha => by simp [ofVal] at ha
  | .slice none 0 0, a, ha => by simp only [ofVal] at ha; cases ha; exact .nilSlice
  | .slice none (n + 1) c, a, ha => by simp [ofVal] at ha
  | .slice none 0 (c + 1), a, ha => by simp [ofVal] at ha
  | .slice (some p) n c, a, ha => by simp [ofVal] at ha
  | .map none, a, ha => by simp only [ofVal] at ha; cases ha; exact .nilMap
  | .map (some r), a, ha => by simp [ofVal] at ha
  | .chan r, a, ha => by simp [ofVal] at ha
  | .nilFunc, a, ha => by simp only [ofVal] at ha; cases ha; exact .nilFunc
  | .nilIface, a, ha => by simp only [ofVal] at ha; cases ha; exact .nilIface
  | .func (.func f) ⟨[]⟩ ⟨[]⟩, a, ha => by
    simp only [ofVal] at ha; cases ha
    exact .func f [] [] _ _ rfl rfl (fun i v c h => by simp at h) (fun i v c h => by simp at h)
  | .func (.func f) ⟨x :: l⟩ m, a, ha => by simp [ofVal] at ha
  | .func (.func f) ⟨[]⟩ ⟨x :: l⟩, a, ha => by simp [ofVal] at ha
  | .func (.method n) l m, a, ha => by simp [ofVal] at ha
  | .func (.methodOf t n) l m, a, ha => by simp [ofVal] at ha
  | .func (.via t p f b) l m, a, ha => by simp [ofVal] at ha
  | .func (.yield n) l m, a, ha => by simp [ofVal] at ha
  | .iface t v, a, ha => by
    simp only [ofVal] at ha
    split at ha
    · rename_i x hx; cases ha; exact .iface t _ _ (ofVal_sound v x hx)
    · cases ha
  | .agg ⟨l⟩, a, ha => by
    simp only [ofVal] at ha
    split at ha
    · rename_i x hx; cases ha; exact (ofVals_sound l x hx).agg
    · cases ha
  | .tuple ⟨l⟩, a, ha => by
    simp only [ofVal] at ha
    split at ha
    · rename_i x hx; cases ha; exact (ofVals_sound l x hx).tuple
    · cases ha
theorem ofVals_sound {φ : Ren} : ∀ (l : List Value) (a : List AV), ofVals l = some a → VRs φ a l
  | [], a, ha => by simp only [ofVals] at ha; cases ha; exact VRs.nil
  | v :: l, a, ha => by
    simp only [ofVals] at ha
    split at ha
    · rename_i x hx
      split at ha
      · rename_i y hy
        cases ha
        exact VRs.cons (ofVal_sound v x hx) (ofVals_sound l y hy)
      · cases ha
    · cases ha
end

theorem zero_sound {t : TypeId} {z : AV} (hz : tzero P t = some z) : ∃ c, (zeroValue t).run P w = .ok c w ∧ VR φ z c ∧ ∃ i, P.info? t = some i ∧ i.zero = some c := by
  unfold tzero at hz
  split at hz
  · rename_i i hi
    split at hz
    · rename_i v hv
      refine ⟨v, ?_, ofVal_sound v z hz, i, hi, hv⟩
      simp [zeroValue, run_typeInfo _ _ hi, hv]
    · cases hz
  · cases hz

theorem run_getObj_map {r : Nat} {es : Array MapEntry} {cl : Nat} (hb : w.heap[r]? = some (.map es cl)) : (getObj r).run P w = .ok (.map es cl) w := by
  simp [getObj, Sem.run, hb]

def entriesOf (c : Value) : Sem (Array MapEntry) :=
  match c with
  | .map none => pure #[]
  | .map (some r) => do
    let .map es _ ← getObj r | stuck "Lookup: map expected"
    pure es
  | _ => stuck "Lookup: map expected"

theorem lookup_run {t kt et : TypeId} {c ci : Value} {ok : Bool} {ces : Array MapEntry} {res' : Option (Nat × Value)} {cv : Value} {b : Bool} (hu : P.underlying t = some (.map kt et))
    (hes : (entriesOf c).run P w = .ok ces w) (hk : ∀ e, (Instr.checkKey e 10000 kt ci).run P w = .ok () w) (hf : (Instr.findKey kt ci ces.toList).run P w = .ok res' w)
    (ht : (res'.map (·.2) = some cv ∧ b = true) ∨ (res' = none ∧ b = false ∧ (zeroValue et).run P w = .ok cv w)) :
    (Instr.lookup t c ci ok).run P w = .ok (if ok then .tuple #[cv, .bool b] else cv) w := by
  have key : (Instr.lookup t c ci ok).run P w = ((entriesOf c).run P w).andThen fun ces w => (do
      Instr.checkKey ces.isEmpty 10000 kt ci
      let (v, ok') ← match ← Instr.findKey kt ci ces.toList with
        | some (_, v) => pure (v, true)
        | none => do pure (← zeroValue et, false)
      pure (if ok then .tuple #[v, .bool ok'] else v) : Sem Value).run P w := by
    rw [← Sem.run_bind]
    have hu' := run_underlying (P := P) (w := w) _ _ hu
    unfold Instr.lookup entriesOf
    rw [Sem.run_bind, hu']
    simp only [Result.andThen_ok]
    cases c with
    | map r =>
      cases r with
      | none => rfl
      | some r =>
        simp only [bind_assoc]
        congr 1
        refine bind_congr fun o => ?_
        cases o <;> rfl
    | _ => rfl
  rw [key, hes]
  simp only [Result.andThen_ok, Sem.run_bind, hk, hf]
  rcases ht with ⟨h1, rfl⟩ | ⟨rfl, rfl, h2⟩
  · cases res' with
    | none => cases h1
    | some p => obtain ⟨j, v⟩ := p; simp at h1; subst h1; rfl
  · simp only [Sem.run_bind, h2, Result.andThen_ok]; rfl

theorem keyOk_under {kt : TypeId} {k : AV} (hk : keyOk P kt k = true) : ∃ d, P.underlying kt = some d := by
  unfold keyOk at hk
  split at hk
  · rename_i hh; exact ⟨_, hh⟩
  · rename_i hh; exact ⟨_, hh⟩
  · rename_i hh; exact ⟨_, hh⟩
  · cases hk

theorem lookup_end {t kt et : TypeId} {ix v : AV} {ok : Bool} {c ci : Value} (hu : P.underlying t = some (.map kt et)) (hi : VR φ ix ci) (hk : keyOk P kt ix = true) {ces : Array MapEntry}
    (hes : (entriesOf c).run P w = .ok ces w) {es : List AME} (hE : EsR φ es ces.toList) {res : Option (Nat × AV)} (hf : findA P kt ix es 0 = some res)
    (hv : (match (generalizing := false) res with
      | some (_, v) => some (cond ok (AV.tuple [v, .bool true]) v)
      | none => match tzero P et with
        | some z => some (cond ok (AV.tuple [z, .bool false]) z)
        | none => none) = some v) : ∃ cv, (Instr.lookup t c ci ok).run P w = .ok cv w ∧ VR φ v cv := by
  obtain ⟨ku, hku⟩ := keyOk_under hk
  obtain ⟨res', h1, h2⟩ := findKey_sound (w := w) hi hku hE hf
  have hck : ∀ e, (Instr.checkKey e 10000 kt ci).run P w = .ok () w := fun e => checkKey_sound hi hk e _ (by decide)
  cases res with
  | none =>
    cases res' with
    | some p => exact h2.elim
    | none =>
      simp only at hv
      split at hv
      · rename_i z hz
        cases hv
        obtain ⟨cz, z1, z2, _⟩ := zero_sound (w := w) (φ := φ) hz
        refine ⟨_, lookup_run (b := false) hu hes hck h1 (.inr ⟨rfl, rfl, z1⟩), ?_⟩
        cases ok
        · exact z2
        · exact (VRs.cons z2 (VRs.cons (.bool false) VRs.nil)).tuple
      · cases hv
  | some q =>
    obtain ⟨j, v0⟩ := q
    cases res' with
    | none => exact h2.elim
    | some p =>
      obtain ⟨j', c0⟩ := p
      obtain ⟨_, hv0⟩ := h2
      simp only at hv
      cases hv
      refine ⟨_, lookup_run (b := true) hu hes hck h1 (.inl ⟨rfl, rfl⟩), ?_⟩
      cases ok
      · exact hv0
      · exact (VRs.cons hv0 (VRs.cons (.bool true) VRs.nil)).tuple

theorem lookup_sound (r : Rel h nx φ w) {t : TypeId} {x ix v : AV} {ok : Bool} {c ci : Value} (hv : lookupA P h t x ix ok = some v) (hx : VR φ x c) (hi : VR φ ix ci) :
    ∃ cv, (Instr.lookup t c ci ok).run P w = .ok cv w ∧ VR φ v cv := by
  unfold lookupA at hv
  split at hv
  · rename_i kt et hu
    split at hv
    · cases hv
    · rename_i hk
      split at hv
      · cases hv
      · rename_i es hes
        split at hv
        · cases hv
        · rename_i res hres
          -- found
          rename_i j v0
          split at hes
          · cases hes; simp [findA] at hres
          · rename_i rr
            cases hx with
            | map _ l hl =>
              split at hes
              · rename_i es0 cl hb
                cases hes
                obtain ⟨ob, ho, hbr⟩ := r.of_blk hb hl
                obtain ⟨ces, rfl, e1, e2⟩ := hbr
                have hE : EsR φ es ces.toList := ⟨by simpa using e1, fun i e c h1 h2 => by
                  have := e2 i e c h1 (by simpa using h2)
                  exact ⟨this.1, this.2.1⟩⟩
                exact lookup_end hu hi hk (by simp only [entriesOf, Sem.run_bind, run_getObj_map ho, Result.andThen_ok, Sem.run_pure]) hE hres hv
              · rename_i es0 hb
                obtain ⟨ha, hes⟩ := cond_none hes
                cases hes
                obtain ⟨ob, ho, hbr⟩ := r.of_blk hb hl
                obtain ⟨ces, cl, es', rfl, e0, e1, e2⟩ := hbr
                have hE : EsR φ es' ces.toList := ⟨by simpa using e1, fun i e c h1 h2 => e2 i e c h1 (by simpa using h2)⟩
                obtain ⟨res2, h3, h4⟩ := findA_perm e0 ha hres
                cases res2 with
                | none => simp at h4
                | some q =>
                  obtain ⟨j2, v2⟩ := q
                  simp at h4
                  subst h4
                  exact lookup_end hu hi hk (by simp only [entriesOf, Sem.run_bind, run_getObj_map ho, Result.andThen_ok, Sem.run_pure]) hE h3 hv
              · cases hes
          · cases hes
        · rename_i hres
          split at hes
          · cases hes
            cases hx
            exact lookup_end hu hi hk (ces := #[]) rfl (es := []) ⟨rfl, fun i e c h => by simp at h⟩ hres hv
          · rename_i rr
            cases hx with
            | map _ l hl =>
              split at hes
              · rename_i es0 cl hb
                cases hes
                obtain ⟨ob, ho, hbr⟩ := r.of_blk hb hl
                obtain ⟨ces, rfl, e1, e2⟩ := hbr
                have hE : EsR φ es ces.toList := ⟨by simpa using e1, fun i e c h1 h2 => by
                  have := e2 i e c h1 (by simpa using h2)
                  exact ⟨this.1, this.2.1⟩⟩
                exact lookup_end hu hi hk (by simp only [entriesOf, Sem.run_bind, run_getObj_map ho, Result.andThen_ok, Sem.run_pure]) hE hres hv
              · rename_i es0 hb
                obtain ⟨ha, hes⟩ := cond_none hes
                cases hes
                obtain ⟨ob, ho, hbr⟩ := r.of_blk hb hl
                obtain ⟨ces, cl, es', rfl, e0, e1, e2⟩ := hbr
                have hE : EsR φ es' ces.toList := ⟨by simpa using e1, fun i e c h1 h2 => e2 i e c h1 (by simpa using h2)⟩
                obtain ⟨res2, h3, h4⟩ := findA_perm e0 ha hres
                cases res2 with
                | none => exact lookup_end hu hi hk (by simp only [entriesOf, Sem.run_bind, run_getObj_map ho, Result.andThen_ok, Sem.run_pure]) hE h3 hv
                | some q => simp at h4
              · cases hes
          · cases hes
  · cases hv

end Go.Abs

namespace Go.Abs

variable {P : Program} {h : T AB} {nx : Nat} {φ : Ren} {w : World}

/-! ### aggregates that are built -/

theorem cells_sound {v : AV} {c : Value} (hr : VR φ v c) (hn : ∀ l, v ≠ .tuple l) : VRs φ v.cells c.cells.toList := by
  cases hr with
  | agg l a hl ih => exact ⟨by simpa [AV.cells, Value.cells] using hl, fun i v c hv hc => ih i v c hv (by simpa [Value.cells] using hc)⟩
  | tuple l a hl ih => exact absurd rfl (hn l)
  | bool b => exact VRs.cons (.bool b) VRs.nil
  | int k n => exact VRs.cons (.int k n) VRs.nil
  | str n c s h1 h2 => exact VRs.cons (.str n c s h1 h2) VRs.nil
  | ptr b o l h => exact VRs.cons (.ptr b o l h) VRs.nil
  | nilPtr => exact VRs.cons .nilPtr VRs.nil
  | slice b o n c l h => exact VRs.cons (.slice b o n c l h) VRs.nil
  | sliceU b o n es c l h h1 h2 => exact VRs.cons (.sliceU b o n es c l h h1 h2) VRs.nil
  | sliceE b o es off l h h1 => exact VRs.cons (.sliceE b o es off l h h1) VRs.nil
  | nilSlice => exact VRs.cons .nilSlice VRs.nil
  | map r l h => exact VRs.cons (.map r l h) VRs.nil
  | nilMap => exact VRs.cons .nilMap VRs.nil
  | func f a b c d h1 h2 h3 h4 => exact VRs.cons (.func f a b c d h1 h2 h3 h4) VRs.nil
  | yield b l h => exact VRs.cons (.yield b l h) VRs.nil
  | nilFunc => exact VRs.cons .nilFunc VRs.nil
  | iface t v c h => exact VRs.cons (.iface t v c h) VRs.nil
  | nilIface => exact VRs.cons .nilIface VRs.nil

/-- A tuple's cells are the tuple: the model's and ours. -/
theorem cells_sound' {v : AV} {c : Value} (hr : VR φ v c) : VRs φ v.cells c.cells.toList := by
  cases hr with
  | tuple l a hl ih => exact VRs.cons (.tuple l a hl ih) VRs.nil
  | agg l a hl ih => exact ⟨by simpa [AV.cells, Value.cells] using hl, fun i v c hv hc => ih i v c hv (by simpa [Value.cells] using hc)⟩
  | bool b => exact VRs.cons (.bool b) VRs.nil
  | int k n => exact VRs.cons (.int k n) VRs.nil
  | str n c s h1 h2 => exact VRs.cons (.str n c s h1 h2) VRs.nil
  | ptr b o l h => exact VRs.cons (.ptr b o l h) VRs.nil
  | nilPtr => exact VRs.cons .nilPtr VRs.nil
  | slice b o n c l h => exact VRs.cons (.slice b o n c l h) VRs.nil
  | sliceU b o n es c l h h1 h2 => exact VRs.cons (.sliceU b o n es c l h h1 h2) VRs.nil
  | sliceE b o es off l h h1 => exact VRs.cons (.sliceE b o es off l h h1) VRs.nil
  | nilSlice => exact VRs.cons .nilSlice VRs.nil
  | map r l h => exact VRs.cons (.map r l h) VRs.nil
  | nilMap => exact VRs.cons .nilMap VRs.nil
  | func f a b c d h1 h2 h3 h4 => exact VRs.cons (.func f a b c d h1 h2 h3 h4) VRs.nil
  | yield b l h => exact VRs.cons (.yield b l h) VRs.nil
  | nilFunc => exact VRs.cons .nilFunc VRs.nil
  | iface t v c h => exact VRs.cons (.iface t v c h) VRs.nil
  | nilIface => exact VRs.cons .nilIface VRs.nil

/-- Cells in a tree, and cells in an array of so many. -/
def CR (φ : Ren) (cs : T AV) (a : Array Value) : Prop := ∀ k v, cs.get k = some v → ∃ c, a[k]? = some c ∧ VR φ v c

theorem CR.ofList {l : List AV} {a : List Value} (hr : VRs φ l a) : CR φ (T.ofList .leaf 0 l) a.toArray := by
  intro k v hv
  rw [T.get_ofList] at hv
  split at hv
  · obtain ⟨c, h1, h2⟩ := hr.get (i := k) (v := v) (by simpa using hv)
    exact ⟨c, by simpa using h1, h2⟩
  · rw [T.get_leaf] at hv; cases hv

theorem get_setL (l : List AV) : ∀ (cs : T AV) (o j : Nat), (setL cs o l).get j = if o ≤ j ∧ j < o + l.length then l[j - o]? else cs.get j := by
  induction l with
  | nil => intro cs o j; simp [setL]; intro h1 h2; omega
  | cons v l ih =>
    intro cs o j
    rw [setL, ih, T.get_set]
    by_cases h : j = o
    · subst h; simp; omega
    · by_cases h1 : o ≤ j
      · by_cases h2 : j < o + (l.length + 1)
        · rw [if_pos ⟨by omega, by omega⟩, if_pos ⟨h1, by simpa using h2⟩]
          have : j - o = (j - (o + 1)) + 1 := by omega
          rw [this]; simp
        · rw [if_neg (by omega), if_neg h, if_neg (by simp only [List.length_cons]; omega)]
      · rw [if_neg (by omega), if_neg h, if_neg (by omega)]

/-- The model's way to put cells. -/
theorem fold_set (off : Nat) : ∀ (l : List Value) (i : Nat) (a : Array Value), (∀ k, ((l.zipIdx i).foldl (fun cs (c, j) => cs.setIfInBounds (off + j) c) a)[k]? =
      if off + i ≤ k ∧ k < off + i + l.length ∧ k < a.size then l[k - (off + i)]? else a[k]?) ∧ ((l.zipIdx i).foldl (fun cs (c, j) => cs.setIfInBounds (off + j) c) a).size = a.size := by
  intro l
  induction l with
  | nil => intro i a; refine ⟨fun k => ?_, rfl⟩; simp; intro h1 h2 h3; omega
  | cons v l ih =>
    intro i a
    simp only [List.zipIdx_cons, List.foldl_cons]
    obtain ⟨h1, h2⟩ := ih (i + 1) (a.setIfInBounds (off + i) v)
    refine ⟨fun k => ?_, by rw [h2]; simp⟩
    rw [h1]
    simp only [Array.size_setIfInBounds, List.length_cons]
    by_cases hk : k = off + i
    · subst hk
      rw [if_neg (by omega)]
      by_cases hs : off + i < a.size
      · rw [if_pos ⟨by omega, by omega, hs⟩]; simp [hs]
      · rw [if_neg (by omega)]; simp [hs]
    · by_cases hc : off + i ≤ k ∧ k < off + i + (l.length + 1) ∧ k < a.size
      · rw [if_pos ⟨by omega, by omega, hc.2.2⟩, if_pos hc]
        have : k - (off + i) = (k - (off + (i + 1))) + 1 := by omega
        rw [this]; simp
      · rw [if_neg (by omega), if_neg hc, Array.getElem?_setIfInBounds_ne (by omega)]

theorem CR.setL {cs : T AV} {a : Array Value} (hr : CR φ cs a) {l : List AV} {c : Value} {vs : List Value} (hv : VRs φ l vs) (hcs : c.cells.toList = vs) {off : Nat} (hlen : off + l.length ≤ a.size) :
    CR φ (Abs.setL cs off l) (c.cells.zipIdx.foldl (fun cs (c, j) => cs.setIfInBounds (off + j) c) a) ∧ (c.cells.zipIdx.foldl (fun cs (c, j) => cs.setIfInBounds (off + j) c) a).size = a.size := by
  have e : c.cells.zipIdx.foldl (fun cs (c, j) => cs.setIfInBounds (off + j) c) a = (vs.zipIdx 0).foldl (fun cs (c, j) => cs.setIfInBounds (off + j) c) a := by
    rw [← hcs, ← Array.foldl_toList]
    congr 1
    simp
  rw [e]
  obtain ⟨h1, h2⟩ := fold_set off vs 0 a
  refine ⟨fun k v hk => ?_, h2⟩
  rw [get_setL] at hk
  rw [h1]
  have hl := hv.1
  by_cases hc : off ≤ k ∧ k < off + l.length
  · rw [if_pos hc] at hk
    rw [if_pos ⟨by omega, by omega, by omega⟩]
    obtain ⟨c', h3, h4⟩ := hv.get hk
    exact ⟨c', by simpa using h3, h4⟩
  · rw [if_neg hc] at hk
    rw [if_neg (by omega)]
    exact hr k v hk

def PartsR (φ : Ren) (ps : List (Nat × AV)) (cps : List (Nat × Value)) : Prop :=
  ps.length = cps.length ∧ ∀ (k : Nat) (p : Nat × AV) (q : Nat × Value), ps[k]? = some p → cps[k]? = some q → p.1 = q.1 ∧ VR φ p.2 q.2

theorem PartsR.cons_inv {p : Nat × AV} {ps : List (Nat × AV)} {q : Nat × Value} {cps : List (Nat × Value)} (hr : PartsR φ (p :: ps) (q :: cps)) : p.1 = q.1 ∧ VR φ p.2 q.2 ∧ PartsR φ ps cps :=
  ⟨(hr.2 0 p q rfl rfl).1, (hr.2 0 p q rfl rfl).2, by have := hr.1; simpa using this, fun k p' q' h1 h2 => hr.2 (k + 1) p' q' (by simpa using h1) (by simpa using h2)⟩

theorem fill_sound {place placeC : Nat → Option (Nat × Nat)} {n : Nat} (hp : ∀ i off size, place i = some (off, size) → placeC i = some (off, size) ∧ off + size ≤ n) :
    ∀ (ps : List (Nat × AV)) (cps : List (Nat × Value)) (cs cs' : T AV) (a : Array Value), PartsR φ ps cps → fillA place cs ps = some cs' → CR φ cs a → a.size = n →
      ∃ a', Instr.fill placeC a cps = some a' ∧ CR φ cs' a' ∧ a'.size = n := by
  intro ps
  induction ps with
  | nil =>
    intro cps cs cs' a hr hf hc hn
    cases cps with
    | nil => simp only [fillA] at hf; cases hf; exact ⟨a, rfl, hc, hn⟩
    | cons q cps => have := hr.1; simp at this
  | cons p ps ih =>
    intro cps cs cs' a hr hf hc hn
    cases cps with
    | nil => have := hr.1; simp at this
    | cons q cps =>
      obtain ⟨i, v⟩ := p
      obtain ⟨j, c⟩ := q
      obtain ⟨h1, h2, h3⟩ := hr.cons_inv
      simp only at h1 h2
      subst h1
      simp only [fillA] at hf
      split at hf
      · cases hf
      · rename_i off size hpl
        obtain ⟨hlen, hf2⟩ := cond_none hf
        have hlen := beqN.1 hlen
        obtain ⟨hpc, hle⟩ := hp i off size hpl
        have hcv := cells_sound' h2
        have hcl : c.cells.size = size := by have := hcv.1; simp at this; omega
        obtain ⟨k1, k2⟩ := CR.setL hc hcv rfl (off := off) (by omega)
        obtain ⟨a', f1, f2, f3⟩ := ih cps _ cs' _ h3 hf2 k1 (by rw [k2, hn])
        refine ⟨a', ?_, f2, f3⟩
        simp only [Instr.fill, hpc]
        rw [if_neg (by simp only [Bool.or_eq_true, decide_eq_true_eq, not_or]; omega)]
        exact f1

end Go.Abs

namespace Go.Abs

variable {P : Program} {h : T AB} {nx : Nat} {φ : Ren} {w : World}

theorem CR.getN {cs : T AV} {a : Array Value} (hc : CR φ cs a) : ∀ (n o : Nat) (l : List AV), Abs.getN cs o n = some l → o + n = a.size → VRs φ l (a.toList.drop o) := by
  intro n
  induction n with
  | zero =>
    intro o l hg hs
    simp [Abs.getN] at hg; subst hg
    have : a.toList.drop o = [] := List.drop_eq_nil_of_le (by simp; omega)
    rw [this]; exact VRs.nil
  | succ n ih =>
    intro o l hg hs
    simp only [Abs.getN] at hg
    split at hg
    · rename_i v0 hv0
      split at hg
      · rename_i l' hl'
        cases hg
        obtain ⟨c, h1, h2⟩ := hc o v0 hv0
        have hlt : o < a.toList.length := by simp; omega
        rw [List.drop_eq_getElem_cons hlt]
        have : a.toList[o] = c := by
          have hlt' : o < a.size := by omega
          rw [Array.getElem?_eq_getElem hlt'] at h1
          cases h1; simp
        rw [this]
        exact VRs.cons h2 (ih (o + 1) l' hl' (by omega))
      · cases hg
    · cases hg

theorem run_mapM_sizes {fs : List Field} (hf : ∀ f ∈ fs, ∃ n, tsize P f.type = some n) :
    (fs.mapM (fun f => do pure (f.offset, ← sizeOf f.type) : Field → Sem (Nat × Nat))).run P w = .ok (fs.map fun f => (f.offset, P.cellsOf f.type)) w := by
  induction fs with
  | nil => rfl
  | cons f fs ih =>
    obtain ⟨n, hn⟩ := hf f (by simp)
    simp only [List.mapM_cons, Sem.run_bind, run_sizeOf _ _ hn, Result.andThen_ok, Sem.run_pure, ih (fun g hg => hf g (by simp [hg])), List.map_cons, cellsOf_tsize hn]

theorem build_sound {t : TypeId} {ps : List (Nat × AV)} {cps : List (Nat × Value)} {v : AV} (hb : buildA P t ps = some v) (hr : PartsR φ ps cps) :
    ∃ c, (Instr.build t cps.toArray).run P w = .ok c w ∧ VR φ v c := by
  unfold buildA at hb
  split at hb
  · rename_i z fs hz hu
    obtain ⟨cz, z1, z2, i, hi, hiz⟩ := zero_sound (w := w) (φ := φ) hz
    have hcz := cells_sound' z2
    split at hb
    · rename_i cs hf
      obtain ⟨hsz, hf⟩ := cond_none hf
      split at hb
      · rename_i l hg
        cases hb
        have hsz' : ∀ f ∈ fs.toList, ∃ n, tsize P f.type = some n := by
          intro f hfm
          rw [fieldsSized, List.all_eq_true] at hsz
          have := hsz f hfm
          cases hh : tsize P f.type with
          | none => rw [hh] at this; cases this
          | some n => exact ⟨n, rfl⟩
        obtain ⟨a', f1, f2, f3⟩ := fill_sound (φ := φ) (n := z.cells.length) (place := fun i => match fs[i]? with
            | some f => match tsize P f.type with
              | some n => cond (Nat.ble (f.offset + n) z.cells.length) (some (f.offset, n)) none
              | none => none
            | none => none) (placeC := fun i => (fs.toList.map fun f => (f.offset, P.cellsOf f.type)).toArray[i]?) (by
          intro i off size hpl
          split at hpl
          · rename_i f hfi
            split at hpl
            · rename_i n hn
              obtain ⟨hle, hpl2⟩ := cond_none hpl
              cases hpl2
              refine ⟨?_, Nat.le_of_ble_eq_true hle⟩
              simp [hfi, cellsOf_tsize hn]
            · cases hpl
          · cases hpl) ps cps _ cs cz.cells hr hf (by have := CR.ofList hcz; simpa using this) (by have := hcz.1; simp at this; omega)
        have hgl := CR.getN f2 _ _ _ hg (by omega)
        have hgl' : VRs φ l a'.toList := hgl
        refine ⟨.agg a', ?_, by have := hgl'.agg; simpa using this⟩
        have hm := run_mapM_sizes (P := P) (w := w) hsz'
        have hm2 : (fs.mapM (fun f => do pure (f.offset, ← sizeOf f.type) : Field → Sem (Nat × Nat))).run P w = .ok (fs.toList.map fun f => (f.offset, P.cellsOf f.type)).toArray w := by
          rw [Array.mapM_eq_mapM_toList, Sem.run_map, hm]
          rfl
        have hfill : Instr.fill ((fs.toList.map fun f => (f.offset, P.cellsOf f.type)).toArray[·]?) cz.cells cps = some a' := f1
        simp only [Instr.build, Sem.run_bind, z1, Result.andThen_ok, run_underlying _ _ hu]
        rw [hm2]
        simp only [Result.andThen_ok, hfill]
        rfl
      · cases hb
    · cases hb
  · rename_i z n e hz hu
    obtain ⟨cz, z1, z2, i, hi, hiz⟩ := zero_sound (w := w) (φ := φ) hz
    have hcz := cells_sound' z2
    split at hb
    · rename_i es hes
      split at hb
      · rename_i cs hf
        split at hb
        · rename_i l hg
          cases hb
          obtain ⟨a', f1, f2, f3⟩ := fill_sound (φ := φ) (n := z.cells.length) (placeC := fun i => some (i * es, es)) (by
            intro i off size hpl
            obtain ⟨hle, hpl2⟩ := cond_none hpl
            cases hpl2
            exact ⟨rfl, Nat.le_of_ble_eq_true hle⟩) ps cps _ cs cz.cells hr hf (by have := CR.ofList hcz; simpa using this) (by have := hcz.1; simp at this; omega)
          have hgl := CR.getN f2 _ _ _ hg (by omega)
          have hgl' : VRs φ l a'.toList := hgl
          refine ⟨.agg a', ?_, by have := hgl'.agg; simpa using this⟩
          simp only [Instr.build, Sem.run_bind, z1, Result.andThen_ok, run_underlying _ _ hu, run_sizeOf _ _ hes, f1]
          rfl
        · cases hb
      · cases hb
    · cases hb
  · cases hb

theorem len_sound (r : Rel h nx φ w) {t ty : TypeId} {ts : Array TypeId} (hts : ts[0]? = some t) {x v : AV} {c : Value} (hv : lenA P h t x = some v) (hx : VR φ x c) : ∃ cv, (Builtin.len_ ts ty #[c]).run P w = .ok cv w ∧ VR φ v cv := by
  unfold lenA at hv
  split at hv
  · rename_i n q hu
    cases hv
    obtain ⟨s, rfl, s1, s2⟩ := hx.str_inv
    refine ⟨goInt s.size, by simp [Builtin.len_, hts, run_underlying _ _ hu], ?_⟩
    rw [size_len, s1]; exact .int _ _
  · rename_i e hu
    cases hv; cases hx
    exact ⟨goInt 0, by simp [Builtin.len_, hts, run_underlying _ _ hu], .int _ _⟩
  · rename_i e b o n cap hu
    cases hv; cases hx
    exact ⟨goInt n, by simp [Builtin.len_, hts, run_underlying _ _ hu], .int _ _⟩
  · rename_i e b o n es hu
    cases hv
    cases hx with
    | sliceU _ _ _ _ cap l h1 h2 h3 => exact ⟨goInt n, by simp [Builtin.len_, hts, run_underlying _ _ hu], .int _ _⟩
    | sliceE _ _ _ off l h1 h2 => exact ⟨goInt 0, by simp [Builtin.len_, hts, run_underlying _ _ hu], .int _ _⟩
  · rename_i k e hu
    cases hv; cases hx
    exact ⟨goInt 0, by simp [Builtin.len_, hts, run_underlying _ _ hu], .int _ _⟩
  · rename_i k e rr hu
    split at hv
    · rename_i es cl hb
      cases hv
      cases hx with
      | map _ l hl =>
        obtain ⟨ob, ho, hbr⟩ := r.of_blk hb hl
        obtain ⟨ces, rfl, e1, e2⟩ := hbr
        refine ⟨goInt ces.size, by simp [Builtin.len_, hts, run_underlying _ _ hu, run_getObj_map ho], ?_⟩
        rw [e1]; exact .int _ _
    · cases hv
  · cases hv

theorem cap_sound {t ty : TypeId} {ts : Array TypeId} (hts : ts[0]? = some t) {x v : AV} {c : Value} (hv : capA P t x = some v) (hx : VR φ x c) : ∃ cv, (Builtin.cap_ ts ty #[c]).run P w = .ok cv w ∧ VR φ v cv := by
  unfold capA at hv
  split at hv
  · rename_i e hu
    cases hv; cases hx
    exact ⟨goInt 0, by simp [Builtin.cap_, hts, run_underlying _ _ hu], .int _ _⟩
  · rename_i e b o n cap hu
    cases hv; cases hx
    exact ⟨goInt cap, by simp [Builtin.cap_, hts, run_underlying _ _ hu], .int _ _⟩
  · cases hv

theorem condI {α : Type} (a b : Int) (x y : α) : cond (ltI a b) x y = if a < b then x else y := by
  rw [ltI_iff]; by_cases hh : a < b <;> simp [hh]

theorem max_sound {ts : Array TypeId} {ty : TypeId} {x y v : AV} {c d : Value} (hv : maxA x y = some v) (hx : VR φ x c) (hy : VR φ y d) : ∃ cv, (Builtin.max_ ts ty #[c, d]).run P w = .ok cv w ∧ VR φ v cv := by
  unfold maxA at hv
  split at hv
  · cases hv
    obtain rfl := hx.int_inv
    obtain rfl := hy.int_inv
    refine ⟨_, rfl, ?_⟩
    rw [condI]
    exact .int _ _
  · cases hv
theorem min_sound {ts : Array TypeId} {ty : TypeId} {x y v : AV} {c d : Value} (hv : minA x y = some v) (hx : VR φ x c) (hy : VR φ y d) : ∃ cv, (Builtin.min_ ts ty #[c, d]).run P w = .ok cv w ∧ VR φ v cv := by
  unfold minA at hv
  split at hv
  · cases hv
    obtain rfl := hx.int_inv
    obtain rfl := hy.int_inv
    refine ⟨_, rfl, ?_⟩
    rw [condI]
    exact .int _ _
  · cases hv

theorem sdata_sound {ts : Array TypeId} {ty : TypeId} {x v : AV} {c : Value} (hv : sdataA x = some v) (hx : VR φ x c) : ∃ cv, (Builtin.unsafeSliceData_ ts ty #[c]).run P w = .ok cv w ∧ VR φ v cv := by
  unfold sdataA at hv
  split at hv
  · cases hv; cases hx; exact ⟨_, rfl, .nilPtr⟩
  · cases hv
    cases hx with
    | slice _ _ _ _ l hl => exact ⟨_, rfl, .ptr _ _ l hl⟩
  · cases hv
    cases hx with
    | sliceU _ _ _ _ cap l hl h1 h2 =>
      refine ⟨_, ?_, .ptr _ _ l hl⟩
      obtain ⟨k, rfl⟩ : ∃ k, cap = k + 1 := ⟨cap - 1, by omega⟩
      rfl
  · cases hv

end Go.Abs

namespace Go.Abs

variable {P : Program} {h : T AB} {nx : Nat} {φ : Ren} {w : World} {G : Nat} {tm : T AV}

/-- The operands' values. -/
def OR (φ : Ren) (G : Nat) (tm : T AV) (ρ : Operand → Value) (xs : Array Operand) : Prop := ∀ x ∈ xs.toList, ∀ v, opnd G tm x = some v → VR φ v (ρ x)

theorem opnds_sound {ρ : Operand → Value} : ∀ (l : List Operand) (vs : List AV), opnds G tm l = some vs → (∀ x ∈ l, ∀ v, opnd G tm x = some v → VR φ v (ρ x)) → VRs φ vs (l.map ρ) := by
  intro l
  induction l with
  | nil => intro vs hv _; simp only [opnds] at hv; cases hv; exact VRs.nil
  | cons x l ih =>
    intro vs hv hO
    simp only [opnds] at hv
    split at hv
    · rename_i a ha
      split at hv
      · rename_i b hb
        cases hv
        exact VRs.cons (hO x (by simp) a ha) (ih b hb (fun y hy => hO y (by simp [hy])))
      · cases hv
    · cases hv

theorem partsA_sound {ρ : Operand → Value} : ∀ (l : List (Nat × Operand)) (vs : List (Nat × AV)), partsA G tm l = some vs → (∀ p ∈ l, ∀ v, opnd G tm p.2 = some v → VR φ v (ρ p.2)) →
    PartsR φ vs (l.map fun p => (p.1, ρ p.2)) := by
  intro l
  induction l with
  | nil => intro vs hv _; simp only [partsA] at hv; cases hv; exact ⟨rfl, fun k p q h => by simp at h⟩
  | cons p l ih =>
    intro vs hv hO
    obtain ⟨i, x⟩ := p
    simp only [partsA] at hv
    split at hv
    · rename_i a ha
      split at hv
      · rename_i b hb
        cases hv
        obtain ⟨i1, i2⟩ := ih b hb (fun y hy => hO y (by simp [hy]))
        refine ⟨by simp [i1], fun k p q h1 h2 => ?_⟩
        cases k with
        | zero => simp at h1 h2; subst h1; subst h2; exact ⟨rfl, hO (i, x) (by simp) a ha⟩
        | succ k => simp at h1 h2; exact i2 k p q h1 (by simpa using h2)
      · cases hv
    · cases hv

theorem optA_sound {ρ : Operand → Value} {x : Option Operand} {v : Option AV} (hv : optA G tm x = some v) (hO : ∀ y, x = some y → ∀ v, opnd G tm y = some v → VR φ v (ρ y)) : VRo φ v (x.map ρ) := by
  unfold optA at hv
  split at hv
  · cases hv; trivial
  · rename_i y
    split at hv
    · rename_i u hu; cases hv; exact hO y rfl u hu
    · cases hv

theorem mem_opt {x : Operand} {o : Option Operand} (hx : o = some x) : x ∈ o.toArray.toList := by subst hx; simp

theorem resolve_builtin (ρ : Operand → Value) (b : Builtin) (args : Array Operand) (ts : Array TypeId) (ty : TypeId) :
    (do let d ← resolve ρ { callee := .builtin b, args, argTypes := ts } ty; invoke d.target d.args : Sem Next).run P w =
      (builtin b ts ty (args.map fun | .const _ => true | _ => false) (args.map ρ)).run P w := by
  simp only [resolve, Sem.run_bind, Sem.run_pure, Result.andThen_ok, invoke]
  rfl

theorem nilCheck_sound {x : AV} {c : Value} (hx : VR φ x c) (h1 : x ≠ .nilPtr) (h2 : x ≠ .nilIface) (h3 : x ≠ .nilFunc) : ∀ (ρ : Operand → Value) (y : Operand) (o : Oper), o.op = .nilCheck y → ρ y = c →
    (execOp ρ o).run P w = .ok (.value c) w := by
  intro ρ y o ho hy
  simp only [execOp, ho, hy]
  cases hx <;> first | rfl | exact absurd rfl h1 | exact absurd rfl h2 | exact absurd rfl h3

theorem qop_sound (r : Rel h nx φ w) {o : Oper} {ρ : Operand → Value} (hO : OR φ G tm ρ o.op.operands) {v : AV} (hq : qop P G h tm o = some v) :
    ∃ c, (execOp ρ o).run P w = .ok (.value c) w ∧ VR φ v c := by
  unfold qop at hq
  split at hq
  · rename_i x ho
    rw [ho] at hO
    exact ⟨ρ x, by simp only [execOp, ho]; rfl, hO x (by simp [Op.operands]) v hq⟩
  · rename_i x ho
    rw [ho] at hO
    exact ⟨ρ x, by simp only [execOp, ho]; rfl, hO x (by simp [Op.operands]) v hq⟩
  · rename_i c a b ho
    rw [ho] at hO
    split at hq
    · rename_i hc
      have := (hO c (by simp [Op.operands]) _ hc).bool_inv
      exact ⟨ρ a, by simp only [execOp, ho, this]; rfl, hO a (by simp [Op.operands]) v hq⟩
    · rename_i hc
      have := (hO c (by simp [Op.operands]) _ hc).bool_inv
      exact ⟨ρ b, by simp only [execOp, ho, this]; rfl, hO b (by simp [Op.operands]) v hq⟩
    · cases hq
  · rename_i t ps ho
    rw [ho] at hO
    split at hq
    · rename_i l hl
      have hP := partsA_sound (φ := φ) (ρ := ρ) ps.toList l hl (fun p hp => hO p.2 (by simp [Op.operands]; exact ⟨p.1, by simpa using hp⟩))
      obtain ⟨c, h1, h2⟩ := build_sound (w := w) hq hP
      refine ⟨c, ?_, h2⟩
      simp only [execOp, ho, Sem.run_bind]
      have e : (ps.map fun (i, x) => (i, ρ x)) = (ps.toList.map fun p => (p.1, ρ p.2)).toArray := by
        apply Array.toList_inj.1; simp
      rw [e, h1]; rfl
    · cases hq
  · rename_i t a ho
    rw [ho] at hO
    split at hq
    · rename_i x hx
      obtain ⟨c, h1, h2⟩ := load_sound r hq (hO a (by simp [Op.operands]) x hx)
      exact ⟨c, by simp only [execOp, ho, Sem.run_bind, h1, Result.andThen_ok]; rfl, h2⟩
    · cases hq
  · rename_i x ho
    rw [ho] at hO
    split at hq
    · rename_i y hy
      have hr := hO x (by simp [Op.operands]) y hy
      split at hq
      · cases hq
      · cases hq
      · cases hq
      · rename_i h1 h2 h3
        cases hq
        exact ⟨ρ x, nilCheck_sound hr h1 h2 h3 ρ x o ho rfl, hr⟩
    · cases hq
  · rename_i op t x y yt ho
    rw [ho] at hO
    split at hq
    · rename_i a b ha hb
      obtain ⟨c, h1, h2⟩ := bin_sound (w := w) hq (hO x (by simp [Op.operands]) a ha) (hO y (by simp [Op.operands]) b hb) rfl
      refine ⟨c, ?_, h2⟩
      simp only [execOp, ho, Sem.run_bind]
      simp only [Sem.run_bind] at h1
      rw [h1]; rfl
    · cases hq
  · rename_i op t x ho
    rw [ho] at hO
    split at hq
    · rename_i a ha
      obtain ⟨c, h1, h2⟩ := un_sound (P := P) (w := w) hq (hO x (by simp [Op.operands]) a ha)
      exact ⟨c, by simp only [execOp, ho, Sem.run_bind, h1, Result.andThen_ok]; rfl, h2⟩
    · cases hq
  · rename_i s d x ho
    rw [ho] at hO
    split at hq
    · rename_i a ha
      obtain ⟨c, h1, h2⟩ := conv_sound r hq (hO x (by simp [Op.operands]) a ha)
      exact ⟨c, by simp only [execOp, ho, Sem.run_bind, h1, Result.andThen_ok]; rfl, h2⟩
    · cases hq
  · rename_i t x ho
    rw [ho] at hO
    split at hq
    · rename_i a d ha hd
      split at hq
      · cases hq
      · rename_i hne
        cases hq
        refine ⟨.iface t (ρ x), ?_, .iface t _ _ (hO x (by simp [Op.operands]) a ha)⟩
        simp only [execOp, ho, Sem.run_bind, Instr.makeInterface, run_underlying _ _ hd, Result.andThen_ok]
        cases d <;> first | rfl | exact (hne _ rfl).elim
    · cases hq
  · rename_i fn fi ca ho
    rw [ho] at hO
    split at hq
    · rename_i f
      split at hq
      · rename_i a b ha hb
        cases hq
        have h1 := opnds_sound (φ := φ) (ρ := ρ) _ _ ha (fun x hx => hO x (by simp [Op.operands]; left; simpa using hx))
        have h2 := opnds_sound (φ := φ) (ρ := ρ) _ _ hb (fun x hx => hO x (by simp [Op.operands]; right; simpa using hx))
        refine ⟨.func (.func f) (fi.map ρ) (ca.map ρ), by simp only [execOp, ho]; rfl, ?_⟩
        refine .func f _ _ _ _ (by have := h1.1; simpa using this) (by have := h2.1; simpa using this) (fun i v c hv hc => h1.2 i v c hv (by
          rw [← Array.toList_map]; simpa using hc)) (fun i v c hv hc => h2.2 i v c hv (by rw [← Array.toList_map]; simpa using hc))
      · cases hq
    · cases hq
  · rename_i t x lo hi mx ho
    rw [ho] at hO
    split at hq
    · rename_i a l r' m ha hl hr hm
      obtain ⟨c, h1, h2⟩ := slice_sound (P := P) r hq (hO x (by simp [Op.operands]) a ha)
        (optA_sound (ρ := ρ) hl (fun y hy => hO y (by simp [Op.operands, hy])))
        (optA_sound (ρ := ρ) hr (fun y hy => hO y (by simp [Op.operands, hy])))
        (optA_sound (ρ := ρ) hm (fun y hy => hO y (by simp [Op.operands, hy])))
      exact ⟨c, by simp only [execOp, ho, Sem.run_bind, h1, Result.andThen_ok]; rfl, h2⟩
    · cases hq
  · rename_i s x f ho
    rw [ho] at hO
    split at hq
    · rename_i a ha
      obtain ⟨c, h1, h2⟩ := fieldAddr_sound (w := w) hq (hO x (by simp [Op.operands]) a ha)
      exact ⟨c, by simp only [execOp, ho, Sem.run_bind, h1, Result.andThen_ok]; rfl, h2⟩
    · cases hq
  · rename_i t x f ho
    rw [ho] at hO
    split at hq
    · rename_i cs fs hx hu
      obtain ⟨ca, e1, e2⟩ := (hO x (by simp [Op.operands]) _ hx).agg_inv
      split at hq
      · rename_i fd hfd
        obtain ⟨c, h1, h2⟩ := part_sound (w := w) hq e2
        refine ⟨c, ?_, h2⟩
        simp only [execOp, ho, Sem.run_bind, Instr.field, run_underlying _ _ hu, Result.andThen_ok, hfd, e1, asAgg, Sem.run_pure, h1]
      · cases hq
    · cases hq
  · rename_i t x ix ho
    rw [ho] at hO
    split at hq
    · rename_i a b ha hb
      obtain ⟨c, h1, h2⟩ := indexAddr_sound (w := w) hq (hO x (by simp [Op.operands]) a ha) (hO ix (by simp [Op.operands]) b hb)
      exact ⟨c, by simp only [execOp, ho, Sem.run_bind, h1, Result.andThen_ok]; rfl, h2⟩
    · cases hq
  · rename_i t x ix ho
    rw [ho] at hO
    split at hq
    · rename_i n c k i hu hx hix
      obtain ⟨hlt, hq2⟩ := cond_none hq
      have hlt : i < n := by simpa [Nat.blt_eq] using hlt
      cases hq2
      obtain ⟨s, e1, s1, s2⟩ := (hO x (by simp [Op.operands]) _ hx).str_inv
      have e2 := (hO ix (by simp [Op.operands]) _ hix).int_inv
      have hl : i < s.data.toList.length := by omega
      have hg : s.data.toList[i]? = some s.data.toList[i] := List.getElem?_eq_getElem hl
      have hb := enc_get _ _ _ hg
      have hsz : i < s.size := by rw [size_len]; exact hl
      refine ⟨.int .u8 (s.data.toList[i]).toNat, ?_, ?_⟩
      · simp only [execOp, ho, Sem.run_bind, Instr.index, e2, asIntOf, Sem.run_pure, Result.andThen_ok, run_underlying _ _ hu, e1]
        simp [hsz]
        rfl
      · rw [s2] at hb
        rw [hb]; exact .int _ _
    · cases hq
  · rename_i t x ix ok ho
    rw [ho] at hO
    split at hq
    · rename_i a b ha hb
      obtain ⟨c, h1, h2⟩ := lookup_sound r hq (hO x (by simp [Op.operands]) a ha) (hO ix (by simp [Op.operands]) b hb)
      exact ⟨c, by simp only [execOp, ho, Sem.run_bind, h1, Result.andThen_ok]; rfl, h2⟩
    · cases hq
  · rename_i x ix ho
    rw [ho] at hO
    split at hq
    · rename_i vs hx
      obtain ⟨ca, e1, e2⟩ := (hO x (by simp [Op.operands]) _ hx).tuple_inv
      obtain ⟨c, h1, h2⟩ := e2.get hq
      refine ⟨c, ?_, h2⟩
      simp only [execOp, ho, Sem.run_bind, Instr.extract, e1]
      simp [h1]
    · cases hq
  · rename_i c ho
    rw [ho] at hO
    obtain ⟨cal, args, ts⟩ := c
    simp only at hq
    split at hq
    · rename_i b
      split at hq
      · rename_i vs hvs
        have hA := opnds_sound (φ := φ) (ρ := ρ) _ _ hvs (fun x hx => hO x (by simp [Op.operands, Call.operands]; simpa using hx))
        have hex : (execOp ρ o).run P w = (builtin b ts o.type (args.map fun | .const _ => true | _ => false) (args.map ρ)).run P w := by
          simp only [execOp, ho]
          exact resolve_builtin ρ b args ts o.type
        have hargs : (args.map ρ) = (args.toList.map ρ).toArray := by apply Array.toList_inj.1; simp
        rw [hex, hargs]
        have one : ∀ x, vs = [x] → ∃ c1, args.toList.map ρ = [c1] ∧ VR φ x c1 := by
          intro x e
          subst e
          obtain ⟨c1, hc1⟩ : ∃ c1, args.toList.map ρ = [c1] := List.length_eq_one_iff.1 (by have := hA.1; simpa using this.symm)
          rw [hc1] at hA
          exact ⟨c1, hc1, hA.head⟩
        have two : ∀ x y, vs = [x, y] → ∃ c1 c2, args.toList.map ρ = [c1, c2] ∧ VR φ x c1 ∧ VR φ y c2 := by
          intro x y e
          subst e
          obtain ⟨c1, c2, hc⟩ : ∃ c1 c2, args.toList.map ρ = [c1, c2] := by
            have hl := hA.1
            generalize args.toList.map ρ = m at hl
            match m, hl with
            | [a, b], _ => exact ⟨a, b, rfl⟩
            | [], hl => simp at hl
            | [a], hl => simp at hl
            | a :: b :: c :: m, hl => simp at hl
          rw [hc] at hA
          exact ⟨c1, c2, hc, hA.head, hA.tail.head⟩
        have fin : ∀ (s : Sem Value) c, s.run P w = .ok c w → (do pure (Next.value (← s)) : Sem Next).run P w = .ok (.value c) w := by
          intro s c hs
          simp only [Sem.run_bind, hs, Result.andThen_ok, Sem.run_pure]
        split at hq
        · rename_i x t tl hts
          obtain ⟨c1, e1, r1⟩ := one x rfl
          obtain ⟨cv, h1, h2⟩ := len_sound (P := P) (ty := o.type) (ts := ts) r (by rw [← Array.getElem?_toList, hts]; rfl) hq r1
          exact ⟨cv, by rw [e1]; exact fin _ _ h1, h2⟩
        · rename_i x t tl hts
          obtain ⟨c1, e1, r1⟩ := one x rfl
          obtain ⟨cv, h1, h2⟩ := cap_sound (P := P) (w := w) (ty := o.type) (ts := ts) (by rw [← Array.getElem?_toList, hts]; rfl) hq r1
          exact ⟨cv, by rw [e1]; exact fin _ _ h1, h2⟩
        · rename_i tl x y
          obtain ⟨c1, c2, e1, r1, r2⟩ := two x y rfl
          obtain ⟨cv, h1, h2⟩ := max_sound (P := P) (w := w) (ts := ts) (ty := o.type) hq r1 r2
          exact ⟨cv, by rw [e1]; exact fin _ _ h1, h2⟩
        · rename_i tl x y
          obtain ⟨c1, c2, e1, r1, r2⟩ := two x y rfl
          obtain ⟨cv, h1, h2⟩ := min_sound (P := P) (w := w) (ts := ts) (ty := o.type) hq r1 r2
          exact ⟨cv, by rw [e1]; exact fin _ _ h1, h2⟩
        · rename_i tl x
          obtain ⟨c1, e1, r1⟩ := one x rfl
          obtain ⟨cv, h1, h2⟩ := sdata_sound (P := P) (w := w) (ts := ts) (ty := o.type) hq r1
          exact ⟨cv, by rw [e1]; exact fin _ _ h1, h2⟩
        · cases hq
      · cases hq
    · cases hq
  · cases hq

end Go.Abs
