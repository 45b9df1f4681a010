/-
  THE EVALUATOR: operations that make or turn memory are what the model does. (The conditions stand in the row and the card that are given.) Written by an AI agent for this claim.
-/
import Derived.Test.YtbbpbklbmoeocaaGreatDoorEvB
import Derived.Lib.UnsafeStr
set_option linter.unusedVariables false
set_option linter.unusedSimpArgs false
namespace Go.Abs

variable {P : Program} {h : T AB} {nx : Nat} {φ : Ren} {w : World} {G : Nat} {tm : T AV}

theorem repA_len (l : List AV) : ∀ n, (repA n l).length = n * l.length := by
  intro n
  induction n with
  | zero => simp [repA]
  | succ n ih => simp only [repA, List.length_append, ih, Nat.succ_mul]; omega

theorem repA_get (l : List AV) : ∀ (n k : Nat) (v : AV), (repA n l)[k]? = some v → l[k % l.length]? = some v := by
  intro n
  induction n with
  | zero => intro k v hv; simp [repA] at hv
  | succ n ih =>
    intro k v hv
    simp only [repA] at hv
    by_cases hk : k < l.length
    · rw [List.getElem?_append_left hk] at hv
      rw [Nat.mod_eq_of_lt hk]; exact hv
    · rw [List.getElem?_append_right (by omega)] at hv
      have := ih _ _ hv
      rwa [Nat.mod_eq_sub_mod (by omega)]

/-- Zeros, one behind the other. -/
theorem rep_VRs {l : List AV} {a : Array Value} (hr : VRs φ l a.toList) (n : Nat) : VRs φ (repA n l) ((Array.range (n * a.size)).map (a[· % a.size]!)).toList := by
  have hl : l.length = a.size := by have := hr.1; simpa using this
  refine ⟨by simp [repA_len, hl], fun i v c hv hc => ?_⟩
  have h1 := repA_get l n i v hv
  rw [hl] at h1
  obtain ⟨c', h2, h3⟩ := hr.get h1
  simp at hc
  obtain ⟨x, hx, hc⟩ := hc
  have hxi : x = i := by
    rcases Nat.lt_or_ge i (n * a.size) with hh | hh
    · rw [List.getElem?_range hh] at hx; cases hx; rfl
    · rw [List.getElem?_eq_none (by simpa using hh)] at hx; cases hx
  subst hxi
  have : a[x % a.size]? = some c' := by simpa using h2
  rw [← hc]
  have e : a[x % a.size]! = c' := by
    rw [getElem!_def, this]
  rw [e]; exact h3

theorem rep_zero {z : AV} {cz : Value} (hz : VR φ z cz) (n es : Nat) (hes : z.cells.length = es) :
    ∃ a : Array Value, (n * es = 0 → a = #[]) ∧ (n * es ≠ 0 → a = cz.cells) ∧
      VRs φ (repA n z.cells) ((Array.range (n * es)).map (a[· % a.size]!)).toList ∧ ((Array.range (n * es)).map (a[· % a.size]!)).size = n * es := by
  have hc := cells_sound' hz
  by_cases h0 : n * es = 0
  · refine ⟨#[], fun _ => rfl, fun hh => absurd h0 hh, ?_, by simp⟩
    rw [h0]
    have : repA n z.cells = [] := List.eq_nil_of_length_eq_zero (by rw [repA_len, hes]; exact h0)
    rw [this]; simpa using VRs.nil
  · refine ⟨cz.cells, fun hh => absurd hh h0, fun _ => rfl, ?_, by simp⟩
    have hl : cz.cells.size = es := by have := hc.1; simp at this; omega
    have := rep_VRs hc n
    rw [hl] at this ⊢
    exact this

theorem CR.ofArr {l : List AV} {a : Array Value} (hr : VRs φ l a.toList) : CR φ (T.ofList .leaf 0 l) a := by
  have := CR.ofList hr
  have e : a.toList.toArray = a := by simp
  rwa [e] at this

theorem CR.br {cs : T AV} {a : Array Value} (hc : CR φ cs a) {n : Nat} (hn : a.size = n) (e : TypeId) (b : Nat) : BR φ (.cells cs n e false false) ⟨b, 0, n⟩ (.cells a e) := by
  refine ⟨a, 0, 0, rfl, hn, by simp, fun _ => ⟨rfl, rfl⟩, fun k v hv => ?_, fun _ => ⟨fun k _ hk => by omega, fun _ => ⟨rfl, rfl⟩⟩⟩
  obtain ⟨c, h1, h2⟩ := hc k v hv
  refine ⟨?_, c, by simpa using h1, h2⟩
  rcases Nat.lt_or_ge k a.size with hh | hh
  · omega
  · simp [Array.getElem?_eq_none hh] at h1

/-- What an operation that makes a block comes to. -/
def Makes (P : Program) (φ : Ren) (w : World) (s : Sem Next) (b : AB) (m : Mk) : Prop :=
  ∃ (ob : Obj) (w' : World) (cv : Value) (sz : Nat), s.run P w = .ok (.value cv) w' ∧ w'.heap = w.heap.push ob ∧ w'.os = w.os ∧ w'.tape = w.tape ∧ w'.output = w.output ∧
    BR φ b ⟨w.heap.size, 0, sz⟩ ob ∧ ∀ (ψ : Ren) (i : Nat), ψ i = some ⟨w.heap.size, 0, sz⟩ → VR ψ (m.val i) cv

theorem bytesA_VRs : ∀ (l : List UInt8), VRs φ (bytesA l.length (enc l)) (l.map fun b => Value.int .u8 b.toNat) := by
  intro l
  induction l with
  | nil => exact VRs.nil
  | cons b l ih =>
    have hb : b.toNat < 256 := b.toNat_lt
    simp only [List.length_cons, bytesA, List.map_cons]
    have e1 : enc (b :: l) % 256 = b.toNat := by simp only [enc]; omega
    have e2 : enc (b :: l) / 256 = enc l := by simp only [enc]; omega
    rw [e1, e2]
    exact VRs.cons (.int _ _) ih

theorem wrap_small {n : Nat} (hn : n ≤ 4611686018427387904) : IntKind.i64.wrap (Int.ofNat n) = Int.ofNat n := by
  rw [← wrapA_eq]
  unfold wrapA
  have : Nat.ble n (maxN .i64) = true := by
    rw [Nat.ble_eq]; simp only [maxN]; omega
  simp only [this, cond_true]

theorem lop_sound {o : Oper} {ρ : Operand → Value} (hO : OR φ G tm ρ o.op.operands) {b : AB} {m : Mk} (hl : lop P G tm o = some (b, m)) : Makes P φ w (execOp ρ o) b m := by
  unfold lop at hl
  split at hl
  · rename_i t ho
    split at hl
    · rename_i z hz
      obtain ⟨_, hl2⟩ := cond_none hl
      cases hl2
      obtain ⟨cz, z1, z2, _⟩ := zero_sound (w := w) (φ := φ) hz
      have hc := cells_sound' z2
      have hsz : cz.cells.size = z.cells.length := by have := hc.1; simp at this; omega
      refine ⟨.cells cz.cells t, { w with heap := w.heap.push (.cells cz.cells t) }, .pointer (some ⟨w.heap.size, 0, none⟩), z.cells.length, ?_, rfl, rfl, rfl, rfl, ?_, ?_⟩
      · simp only [execOp, ho, Sem.run_bind, Instr.alloc, z1, Result.andThen_ok, newVar, newRow, run_newObj, Sem.run_pure]
      · exact CR.br (CR.ofArr hc) hsz t _
      · intro ψ i hi
        exact .ptr i 0 _ hi
    · cases hl
  · rename_i t x ho
    rw [ho] at hO
    split at hl
    · rename_i v hv
      obtain ⟨_, hl2⟩ := cond_none hl
      cases hl2
      have hr := hO x (by simp [Op.operands]) v hv
      have hc := cells_sound' hr
      have hsz : (ρ x).cells.size = v.cells.length := by have := hc.1; simp at this; omega
      refine ⟨.cells (ρ x).cells t, { w with heap := w.heap.push (.cells (ρ x).cells t) }, .pointer (some ⟨w.heap.size, 0, none⟩), v.cells.length, ?_, rfl, rfl, rfl, rfl, ?_, ?_⟩
      · simp only [execOp, ho, Sem.run_bind, Instr.box, Result.andThen_ok, newVar, newRow, run_newObj, Sem.run_pure]
      · exact CR.br (CR.ofArr hc) hsz t _
      · intro ψ i hi
        exact .ptr i 0 _ hi
    · cases hl
  · rename_i t len ps ho
    rw [ho] at hO
    split at hl
    · rename_i parts e hp hu
      split at hl
      · rename_i es z hes hz
        obtain ⟨hcnd, hl2⟩ := cond_none hl
        rw [Bool.and_eq_true] at hcnd
        have hle := Nat.le_of_ble_eq_true hcnd.1
        have hzl := beqN.1 hcnd.2
        split at hl2
        · rename_i cs hf
          cases hl2
          obtain ⟨cz, z1, z2, _⟩ := zero_sound (w := w) (φ := φ) hz
          obtain ⟨a, ra0, ra1, r2, r3⟩ := rep_zero z2 len es hzl
          have hP := partsA_sound (φ := φ) (ρ := ρ) ps.toList parts hp (fun p hpm => hO p.2 (by simp [Op.operands]; exact ⟨p.1, by simpa using hpm⟩))
          obtain ⟨a', f1, f2, f3⟩ := fill_sound (φ := φ) (n := len * es) (placeC := fun i => some (i * es, es)) (by
            intro i off size hpl
            obtain ⟨hlt, hpl2⟩ := cond_none hpl
            have hlt : i < len := by simpa [Nat.blt_eq] using hlt
            cases hpl2
            refine ⟨rfl, ?_⟩
            have := Nat.mul_le_mul_right es (show i + 1 ≤ len by omega)
            rw [Nat.succ_mul] at this; exact this) _ _ _ cs _ hP hf (CR.ofArr r2) r3
          refine ⟨.cells a' e, { w with heap := w.heap.push (.cells a' e) }, .slice (some ⟨w.heap.size, 0, none⟩) len len, len * es, ?_, rfl, rfl, rfl, rfl, CR.br f2 f3 e _, ?_⟩
          · have ee : (ps.map fun (i, x) => (i, ρ x)) = (ps.toList.map fun p => (p.1, ρ p.2)).toArray := by apply Array.toList_inj.1; simp
            simp only [execOp, ho, Sem.run_bind, Instr.buildSlice, run_underlying _ _ hu, Result.andThen_ok, run_sizeOf _ _ hes]
            rw [if_neg (by omega)]
            have f1' : Instr.fill (fun i => some (i * es, es)) ((Array.range (len * es)).map (a[· % a.size]!)) (ps.map fun (i, x) => (i, ρ x)).toList = some a' := by
              rw [ee]; simpa using f1
            by_cases h0 : len * es = 0
            · rw [ra0 h0] at f1'
              rw [if_pos h0]
              simp only [Sem.run_bind, Sem.run_pure, Result.andThen_ok]
              rw [f1']
              simp only [newRow, Sem.run_bind, run_newObj, Result.andThen_ok, Sem.run_pure]
            · rw [ra1 h0] at f1'
              rw [if_neg h0]
              simp only [Sem.run_bind, z1, Sem.run_pure, Result.andThen_ok]
              rw [f1']
              simp only [newRow, Sem.run_bind, run_newObj, Result.andThen_ok, Sem.run_pure]
          · intro ψ i hi
            exact .slice i 0 len len _ hi
        · cases hl2
      · cases hl
    · cases hl
  · rename_i t ho
    cases hl
    refine ⟨.map #[] 0, { w with heap := w.heap.push (.map #[] 0) }, .map (some w.heap.size), 0, ?_, rfl, rfl, rfl, rfl, ?_, ?_⟩
    · simp only [execOp, ho, Sem.run_bind, Instr.makeMap, Option.map_none, run_newObj, Result.andThen_ok, Sem.run_pure]
    · exact ⟨#[], rfl, rfl, fun i e c hh => by simp at hh⟩
    · intro ψ i hi
      exact .map i _ hi
  · rename_i t l c ho
    rw [ho] at hO
    split at hl
    · rename_i n mm e hln hcn hu
      split at hl
      · rename_i i z hi hz
        obtain ⟨hcnd, hl2⟩ := cond_none hl
        cases hl2
        simp only [Bool.and_eq_true] at hcnd
        obtain ⟨⟨⟨c1, c2⟩, c3⟩, c4⟩ := hcnd
        have c1 := Nat.le_of_ble_eq_true c1
        have c2 := Nat.le_of_ble_eq_true c2
        have c3 := beqN.1 c3
        have c4 := Nat.le_of_ble_eq_true c4
        have e1 := (hO l (by simp [Op.operands]) _ hln).int_inv
        have e2 := (hO c (by simp [Op.operands]) _ hcn).int_inv
        obtain ⟨cz, z1, z2, _⟩ := zero_sound (w := w) (φ := φ) hz
        obtain ⟨a, ra0, ra1, r2, r3⟩ := rep_zero z2 mm i.size c3
        refine ⟨.cells ((Array.range (mm * i.size)).map (a[· % a.size]!)) e, { w with heap := w.heap.push (.cells ((Array.range (mm * i.size)).map (a[· % a.size]!)) e) }, .slice (some ⟨w.heap.size, 0, none⟩) n mm,
          mm * i.size, ?_, rfl, rfl, rfl, rfl, CR.br (CR.ofArr r2) r3 e _, ?_⟩
        · have hb : ((i.bytes : Nat) : Int) * (Int.ofNat mm) ≤ 2 ^ 48 := by
            have h48 : (2 : Int) ^ 48 = ((281474976710656 : Nat) : Int) := by decide
            have := Int.ofNat_le.2 c2
            rw [Int.natCast_mul] at this
            rw [h48]
            exact this
          have hsz : (sizeOf e).run P w = .ok i.size w := run_sizeOf _ _ (by simp [tsize, hi])
          simp only [execOp, ho, Sem.run_bind, Instr.makeSlice, run_underlying _ _ hu, Result.andThen_ok, e1, e2, asInt, asIntOf, Sem.run_pure, run_typeInfo _ _ hi, wrap_small (show n ≤ 4611686018427387904 by omega), wrap_small c4]
          have hx1 : ¬ (Int.ofNat mm < 0) := by simp
          have hx2 : ¬ ((i.bytes : Int) * Int.ofNat mm > 2 ^ 48) := by omega
          have hx3 : ¬ (Int.ofNat n < 0) := by simp
          have hx4 : ¬ (Int.ofNat n > Int.ofNat mm) := by simp; omega
          simp only [hx1, hx2, hx3, hx4, decide_false, Bool.or_self, Bool.false_eq_true, if_false]
          simp only [Sem.run_bind, run_askRoom, Result.andThen_ok, hsz]
          have ht : (Int.ofNat mm).toNat = mm := rfl
          rw [ht]
          by_cases h0 : mm * i.size = 0
          · rw [if_pos h0, ra0 h0]
            simp only [newRow, Sem.run_bind, run_newObj, Result.andThen_ok, Sem.run_pure]
            rfl
          · rw [if_neg h0, ra1 h0]
            simp only [newRow, Sem.run_bind, z1, run_newObj, Result.andThen_ok, Sem.run_pure]
            rfl
        · intro ψ i hi
          exact .slice i 0 n mm _ hi
      · cases hl
    · cases hl
  · rename_i s d x ho
    rw [ho] at hO
    split at hl
    · rename_i n c e hx hs hd
      split at hl
      · rename_i he
        cases hl
        obtain ⟨sv, e1, s1, s2⟩ := (hO x (by simp [Op.operands]) _ hx).str_inv
        -- the capacity that is drawn
        obtain ⟨cap, hcap⟩ : ∃ cap, cap = (Question.appendCap sv.size 0 e).cut (w.tape w.drawn (.appendCap sv.size 0 e)) := ⟨_, rfl⟩
        have hge : sv.size ≤ cap := by rw [hcap]; simp [Question.cut]
        have hsz : sv.size = n := (size_len sv).trans s1
        obtain ⟨arr, harr⟩ : ∃ arr : Array Value, arr = (sv.data.map fun b => (Value.int .u8 b.toNat)) ++ Array.replicate (cap - sv.size) (.int .u8 0) := ⟨_, rfl⟩
        have hasz : arr.size = cap := by
          rw [harr]
          have : sv.data.size = sv.size := rfl
          simp; omega
        refine ⟨.cells arr e (cap, cap + 1), { w with heap := w.heap.push (.cells arr e (cap, cap + 1)), drawn := w.drawn + 1 }, .slice (some ⟨w.heap.size, 0, none⟩) sv.size cap, cap, ?_, rfl, rfl, rfl, rfl, ?_, ?_⟩
        · simp only [execOp, ho, Sem.run_bind, convert, run_underlying _ _ hs, run_underlying _ _ hd, run_underlying _ _ he, Result.andThen_ok, e1, Conv.stringToBytes, run_choose, Question.forced]
          simp only [Bool.false_eq_true, if_false, ← hcap, Result.andThen_ok, newRow, Sem.run_bind, run_newObj, Sem.run_pure, ← harr, markStringish, run_shape]
          have hsh : World.shape? { w with heap := w.heap.push (.cells arr e), drawn := w.drawn + 1 } w.heap.size = some (e, cap) := by
            simp [World.shape?, hasz]
          simp only [hsh, run_freeze, Result.andThen_ok]
          congr 1
          simp only [World.freeze]
          rw [if_neg (by omega)]
          congr 1
          apply Array.ext_getElem?
          intro k
          simp only [Array.getElem?_modify, Array.getElem?_push]
          by_cases hk : k = w.heap.size
          · subst hk; simp
          · have : w.heap.size ≠ k := fun e => hk e.symm
            simp [this, hk]
        · refine ⟨arr, cap, cap + 1, rfl, hasz, (by simp; omega), (fun hh => by cases hh), fun k v hv => ?_, fun _ => ⟨fun k hk hh => ?_, fun hh => by cases hh⟩⟩
          · rw [T.get_ofList] at hv
            split at hv
            · rename_i hlt
              have hb := bytesA_VRs (φ := φ) sv.data.toList
              rw [s1, s2] at hb
              obtain ⟨cv, h1, h2⟩ := hb.get (i := k) (v := v) (by simpa using hv)
              have hkn : k < n := by
                have := hb.1
                simp at this
                have hlen : (bytesA n c).length = n := by rw [this]; simpa using s1
                simp [hlen] at hlt; exact hlt
              refine ⟨hkn, cv, ?_, h2⟩
              have hk2 : k < (sv.data.map fun b => (Value.int .u8 b.toNat)).size := by
                have : sv.data.size = n := by simpa using s1
                simp; omega
              rw [Nat.zero_add, harr, Array.getElem?_append_left hk2]
              rw [← Array.getElem?_toList, Array.toList_map]
              exact h1
            · rw [T.get_leaf] at hv; cases hv
          · simp at hk; omega
        · intro ψ i hi
          rw [hsz]
          exact .sliceU i 0 n 1 cap _ hi (by omega) (by simp)
      · cases hl
    · cases hl
  · cases hl

end Go.Abs

namespace Go.Abs

variable {P : Program} {h : T AB} {nx : Nat} {φ : Ren} {w : World} {G : Nat} {tm : T AV}

theorem isOne_cons {v : AV} {l : List AV} (hh : isOne (v :: l) = true) : v.one = true ∧ isOne l = true := by
  simpa [isOne] using hh

/-- Cells that are stored one by one. -/
theorem Rel.storeL : ∀ (l : List AV) (cvs : List Value) (h : T AB) (w : World) (cs : T AV) (i : Nat), Rel h nx φ w → VRs φ l cvs → isOne l = true → ∀ {b : Nat} {n : Nat} {elem : TypeId} {opn : Bool},
    h.get b = some (.cells cs n elem opn false) → ∀ {lc : Loc}, φ b = some lc → ∀ {o : Nat}, o + i + l.length ≤ n →
    ∃ w' h', (storeCells ⟨lc.blk, lc.dlt + o, none⟩ cvs i).run P w = .ok () w' ∧ (l = [] → h' = h ∧ w' = w) ∧ (l ≠ [] → h' = h.set b (.cells (setL cs (o + i) l) n elem opn false)) ∧
      Rel h' nx φ w' ∧ Fr h nx φ w h' nx φ w' := by
  intro l
  induction l with
  | nil =>
    intro cvs h w cs i r hv _ b n elem opn hb lc hl o hle
    cases cvs with
    | nil => exact ⟨w, h, rfl, fun _ => ⟨rfl, rfl⟩, fun hh => absurd rfl hh, r, Fr.refl _ _ _ _⟩
    | cons c cvs => have := hv.1; simp at this
  | cons v l ih =>
    intro cvs h w cs i r hv h1 b n elem opn hb lc hl o hle
    cases cvs with
    | nil => have := hv.1; simp at this
    | cons c cvs =>
      obtain ⟨hone, hrest⟩ := isOne_cons h1
      simp only [List.length_cons] at hle
      obtain ⟨⟨x, hx⟩, hfr, r2, f2⟩ := r.store hb hl (o := o + i) (by omega) hv.head
      have hget : (h.set b (.cells (cs.set (o + i) v) n elem opn false)).get b = some (.cells (cs.set (o + i) v) n elem opn false) := T.get_set_self _ _ _
      obtain ⟨w', h', s1, s2, s3, s4, s5⟩ := ih cvs _ _ _ (i + 1) r2 hv.tail hrest hget hl (o := o) (by omega)
      refine ⟨w', h', ?_, (fun hh => by cases hh), (fun _ => ?_), s4, f2.trans s5⟩
      · simp only [storeCells, Sem.run_bind, Addr.add_none]
        rw [Nat.add_assoc, run_store P w _ c .plain (hv.head.one hone), hx]
        simp only [hfr, Bool.false_eq_true, if_false, Result.andThen_ok]
        exact s1
      · by_cases hl0 : l = []
        · obtain ⟨e1, _⟩ := s2 hl0
          rw [e1, hl0]; rfl
        · rw [s3 hl0, T.set_set]; rfl

/-- The same, the heap as it is set. -/
theorem Rel.storeL' (r : Rel h nx φ w) {l : List AV} {cvs : List Value} (hv : VRs φ l cvs) (h1 : isOne l = true) {b n : Nat} {cs : T AV} {elem : TypeId} {opn : Bool} (hb : h.get b = some (.cells cs n elem opn false))
    {lc : Loc} (hl : φ b = some lc) {o : Nat} (hle : o + l.length ≤ n) :
    ∃ w', (storeCells ⟨lc.blk, lc.dlt + o, none⟩ cvs).run P w = .ok () w' ∧ Rel (h.set b (.cells (setL cs o l) n elem opn false)) nx φ w' ∧ Fr h nx φ w (h.set b (.cells (setL cs o l) n elem opn false)) nx φ w' := by
  obtain ⟨w', h', s1, s2, s3, s4, s5⟩ := Rel.storeL (P := P) l cvs h w cs 0 r hv h1 hb hl (o := o) (by omega)
  by_cases hl0 : l = []
  · obtain ⟨e1, e2⟩ := s2 hl0
    subst hl0
    refine ⟨w', s1, ?_, ?_⟩
    · subst e1; subst e2
      obtain ⟨ob, ho, hbr⟩ := r.of_blk hb hl
      exact r.turn hb hl hbr ho (fun _ _ => rfl)
    · subst e1; subst e2
      exact Fr.turn hb hl (fun _ _ => rfl) rfl rfl rfl rfl
  · have := s3 hl0
    subst this
    exact ⟨w', s1, s4, s5⟩

theorem store_sound (r : Rel h nx φ w) {t : TypeId} {a v : AV} {ca cv : Value} {h' : T AB} (hs : storeA P h t a v = some h') (ha : VR φ a ca) (hv : VR φ v cv) :
    ∃ w', (Instr.storeAt t ca cv).run P w = .ok () w' ∧ Rel h' nx φ w' ∧ Fr h nx φ w h' nx φ w' := by
  unfold storeA at hs
  split at hs
  · rename_i b o
    split at hs
    · rename_i cs n e opn hb
      split at hs
      · rename_i s hsz
        obtain ⟨hc, hs2⟩ := cond_none hs
        cases hs2
        simp only [Bool.and_eq_true] at hc
        obtain ⟨⟨c1, c2⟩, c3⟩ := hc
        have c1 := beqN.1 c1
        have c2 := Nat.le_of_ble_eq_true c2
        cases ha with
        | ptr _ _ l hl =>
          have hcv := cells_sound' hv
          obtain ⟨w', s1, s2, s3⟩ := Rel.storeL' (P := P) r hcv c3 hb hl (o := o) (by omega)
          refine ⟨w', ?_, s2, s3⟩
          have hsz2 : cv.cells.size = s := by have := hcv.1; simp at this; omega
          simp only [Instr.storeAt, Instr.sureAddr, storeVar, Sem.run_bind, Sem.run_pure, Result.andThen_ok, run_sizeOf _ _ hsz]
          rw [if_neg (by simp [hsz2])]
          exact s1
      · cases hs
    · cases hs
  · cases hs

/-! ### maps that are written -/

theorem sameBits_refl {v : AV} {c d : Value} (h1 : VR φ v c) (h2 : VR φ v d) (hk : (∃ k n, v = .int k n) ∨ (∃ n m, v = .str n m)) : Instr.sameBits 10000 c d = true ∧ c = d := by
  rcases hk with ⟨k, n, rfl⟩ | ⟨n, m, rfl⟩
  · obtain rfl := h1.int_inv
    obtain rfl := h2.int_inv
    exact ⟨by simp [Instr.sameBits], rfl⟩
  · obtain ⟨s, rfl, s1, s2⟩ := h1.str_inv
    obtain ⟨u, rfl, u1, u2⟩ := h2.str_inv
    have : s = u := (str_eq s1 s2 u1 u2).1 (by rw [Bool.and_eq_true]; exact ⟨Nat.beq_refl _, Nat.beq_refl _⟩)
    subst this
    refine ⟨?_, rfl⟩
    simp only [Instr.sameBits]
    rw [beq_toListBytes]; simp


theorem isOne_append (l m : List AV) : isOne (l ++ m) = (isOne l && isOne m) := by
  induction l with
  | nil => rfl
  | cons v l ih => simp only [List.cons_append, isOne, ih, Bool.and_assoc]

end Go.Abs

namespace Go.Abs

variable {P : Program} {h : T AB} {nx : Nat} {φ : Ren} {w : World} {G : Nat} {tm : T AV}

theorem sameFlat_eq {a b : AV} (hs : sameFlat a b = true) : a = b := by
  unfold sameFlat at hs
  split at hs
  · simp only [Bool.and_eq_true, decide_eq_true_eq, eqI_iff, beq_iff_eq] at hs
    rw [hs.1, hs.2]
  · simp only [Bool.and_eq_true, beqN] at hs
    rw [hs.1, hs.2]
  · cases hs

theorem sameFlats_eq : ∀ (l m : List AV), sameFlats l m = true → l = m := by
  intro l
  induction l with
  | nil => intro m hs; cases m with
    | nil => rfl
    | cons b m => cases hs
  | cons a l ih => intro m hs; cases m with
    | nil => cases hs
    | cons b m =>
      simp only [sameFlats, Bool.and_eq_true] at hs
      rw [sameFlat_eq hs.1, ih m hs.2]

theorem sameKey_eq {a b : AV} (hs : sameKey a b = true) : a = b := by
  unfold sameKey at hs
  split at hs
  · rw [sameFlats_eq _ _ hs]
  · exact sameFlat_eq hs

theorem run_choose_any (q : Question) : ∃ n w', (choose q).run P w = .ok n w' ∧ w'.heap = w.heap ∧ w'.os = w.os ∧ w'.tape = w.tape ∧ w'.output = w.output := by
  rw [run_choose]
  cases q.forced with
  | true => exact ⟨_, _, rfl, rfl, rfl, rfl, rfl⟩
  | false => exact ⟨_, _, rfl, rfl, rfl, rfl, rfl⟩

theorem keyThatStays_run (old new : Value) : ∃ w' k, (Instr.keyThatStays old new).run P w = .ok k w' ∧ (k = old ∨ k = new) ∧ w'.heap = w.heap ∧ w'.os = w.os ∧ w'.tape = w.tape ∧ w'.output = w.output := by
  unfold Instr.keyThatStays
  split
  · exact ⟨w, new, rfl, .inr rfl, rfl, rfl, rfl, rfl⟩
  · obtain ⟨n, w', h1, h2, h3, h4, h5⟩ := run_choose_any (P := P) (w := w) (.extern "map.whichKeyStays" 2)
    refine ⟨w', if n = 0 then new else old, ?_, by split <;> simp, h2, h3, h4, h5⟩
    simp only [Sem.run_bind, h1, Result.andThen_ok, Sem.run_pure]

/-- The concrete block is another, the tracked one is not. -/
theorem Rel.touch (r : Rel h nx φ w) {i : Nat} {b : AB} (hb : h.get i = some b) {l : Loc} (hl : φ i = some l) {o : Obj} (hbr : BR φ b l o) {w' : World}
    (hw : w'.heap[l.blk]? = some o) (hs : ∀ k, k ≠ l.blk → w'.heap[k]? = w.heap[k]?) : Rel h nx φ w' where
  dom := r.dom
  blk := fun j bj hj => by
    by_cases e : j = i
    · subst e
      rw [hb] at hj; cases hj
      exact ⟨l, o, hl, hw, hbr⟩
    · obtain ⟨lj, oj, h1, h2, h3⟩ := r.blk j bj hj
      refine ⟨lj, oj, h1, ?_, h3⟩
      rw [hs]
      · exact h2
      · intro e2; exact e (r.inj j i bj b lj l hj hb h1 hl e2)
  inj := r.inj

theorem Fr.touch {i : Nat} {b : AB} (hb : h.get i = some b) {l : Loc} (hl : φ i = some l) {w' : World}
    (hs : ∀ k, k ≠ l.blk → w'.heap[k]? = w.heap[k]?) (hz : w'.heap.size = w.heap.size) (h1 : w'.os = w.os) (h2 : w'.tape = w.tape) (h3 : w'.output = w.output) :
    Fr h nx φ w h nx φ w' where
  ren := fun _ _ => rfl
  nx := Nat.le_refl _
  size := Nat.le_of_eq hz.symm
  old := fun k _ ho => hs k (fun e => ho ⟨i, b, l, hb, hl, e.symm⟩)
  own := fun k ho _ => ho
  os := h1
  tape := h2
  output := h3

/-- A block that is set anew. -/
theorem run_setObj' {r : Nat} {o : Obj} {ces : Array MapEntry} {cl : Nat} (hr : w.heap[r]? = some (.map ces cl)) :
    ∃ w', (setObj r o).run P w = .ok () w' ∧ w'.heap[r]? = some o ∧ (∀ k, k ≠ r → w'.heap[k]? = w.heap[k]?) ∧ w'.heap.size = w.heap.size ∧ w'.os = w.os ∧ w'.tape = w.tape ∧ w'.output = w.output := by
  have hlt : r < w.heap.size := by
    rcases Nat.lt_or_ge r w.heap.size with hh | hh
    · exact hh
    · simp [Array.getElem?_eq_none hh] at hr
  refine ⟨{ w with heap := w.heap.setIfInBounds r o }, ?_, by simp [hlt], fun k hk => by simp [Ne.symm hk], by simp, rfl, rfl, rfl⟩
  simp only [setObj, Sem.run, hr]

theorem setVal_len (v : AV) : ∀ (es : List AME) (i : Nat), (setVal v es i).length = es.length := by
  intro es
  induction es with
  | nil => intro i; cases i <;> rfl
  | cons e es ih => intro i; cases i with
    | zero => rfl
    | succ i => simp [setVal, ih]

theorem setVal_get (v : AV) : ∀ (es : List AME) (i j : Nat), (setVal v es i)[j]? = if j = i then (es[j]?).map (fun e => { e with val := v }) else es[j]? := by
  intro es
  induction es with
  | nil => intro i j; cases i <;> simp [setVal]
  | cons e es ih =>
    intro i j
    cases i with
    | zero => cases j with
      | zero => simp [setVal]
      | succ j => simp [setVal]
    | succ i => cases j with
      | zero => simp [setVal]
      | succ j => simp only [setVal, List.getElem?_cons_succ, ih]; simp

theorem mapBR_inv {es : List AME} {cl : Nat} {l : Loc} {o : Obj} (hb : BR φ (.map es cl) l o) : ∃ (ces : Array MapEntry), o = .map ces cl ∧ es.length = ces.size ∧ ∀ (i : Nat) (e : AME) (c : MapEntry), es[i]? = some e → ces[i]? = some c → EntryR φ e c := hb

theorem map_EsR {es : List AME} {ces : Array MapEntry} (e1 : es.length = ces.size) (e2 : ∀ (i : Nat) (e : AME) (c : MapEntry), es[i]? = some e → ces[i]? = some c → EntryR φ e c) : EsR φ es ces.toList :=
  ⟨by simpa using e1, fun i e c h1 h2 => by
    have := e2 i e c h1 (by simpa using h2)
    exact ⟨this.1, this.2.1⟩⟩

theorem map_push {es : List AME} {ces : Array MapEntry} (e1 : es.length = ces.size) (e2 : ∀ (i : Nat) (e : AME) (c : MapEntry), es[i]? = some e → ces[i]? = some c → EntryR φ e c)
    {k v : AV} {ck cv : Value} {cl : Nat} (hk : VR φ k ck) (hv : VR φ v cv) {l : Loc} :
    BR φ (.map (es ++ [{ key := k, val := v, born := cl }]) (cl + 1)) l (.map (ces.push { key := ck, val := cv, born := cl }) (cl + 1)) := by
  refine ⟨_, rfl, by simp [e1], fun i e c h1 h2 => ?_⟩
  rw [Array.getElem?_push] at h2
  by_cases hi : i = ces.size
  · rw [if_pos hi] at h2
    cases h2
    rw [List.getElem?_append_right (by omega)] at h1
    have : i - es.length = 0 := by omega
    rw [this] at h1
    simp at h1; subst h1
    exact ⟨hk, hv, rfl⟩
  · rw [if_neg hi] at h2
    have : i < ces.size := by
      rcases Nat.lt_or_ge i ces.size with hh | hh
      · exact hh
      · simp [Array.getElem?_eq_none hh] at h2
    rw [List.getElem?_append_left (by omega)] at h1
    exact e2 i e c h1 h2

/-- An entry's key and value, set anew. -/
theorem map_modify {es : List AME} {ces : Array MapEntry} (e1 : es.length = ces.size) (e2 : ∀ (i : Nat) (e : AME) (c : MapEntry), es[i]? = some e → ces[i]? = some c → EntryR φ e c)
    {v : AV} {cv : Value} {cl i : Nat} (hv : VR φ v cv) {f : MapEntry → MapEntry} (hf : ∀ c, (f c).val = cv ∧ (f c).born = c.born)
    (hk : ∀ e c, es[i]? = some e → ces[i]? = some c → VR φ e.key (f c).key) {l : Loc} :
    BR φ (.map (setVal v es i) cl) l (.map (ces.modify i f) cl) := by
  refine ⟨_, rfl, by simp [setVal_len, e1], fun j e c h1 h2 => ?_⟩
  rw [setVal_get] at h1
  rw [Array.getElem?_modify] at h2
  by_cases hj : j = i
  · subst hj
    rw [if_pos rfl] at h1 h2
    cases he : es[j]? with
    | none => rw [he] at h1; cases h1
    | some e0 =>
      cases hc : ces[j]? with
      | none => rw [hc] at h2; cases h2
      | some c0 =>
        rw [he] at h1; rw [hc] at h2
        simp at h1 h2
        subst h1; subst h2
        exact ⟨hk e0 c0 he hc, by rw [(hf c0).1]; exact hv, by rw [(hf c0).2]; exact (e2 j e0 c0 he hc).2.2⟩
  · rw [if_neg hj] at h1
    rw [if_neg (fun hh => hj hh.symm)] at h2
    exact e2 j e c h1 h2

theorem EsR.at {es : List AME} {ces : Array MapEntry} (e1 : es.length = ces.size) {i : Nat} {e : AME} (he : es[i]? = some e) : ∃ c, ces[i]? = some c := by
  have : i < es.length := by
    rcases Nat.lt_or_ge i es.length with hh | hh
    · exact hh
    · simp [List.getElem?_eq_none hh] at he
  exact ⟨ces[i]'(by omega), by simp [show i < ces.size by omega]⟩

theorem mapUpdate_sound (r : Rel h nx φ w) {t : TypeId} {m k v : AV} {cm ck cv : Value} {h' : T AB} (hs : mapUpdateA P h t m k v = some h') (hm : VR φ m cm) (hk : VR φ k ck) (hv : VR φ v cv) :
    ∃ w', (Instr.mapUpdate t cm ck cv).run P w = .ok () w' ∧ Rel h' nx φ w' ∧ Fr h nx φ w h' nx φ w' := by
  unfold mapUpdateA at hs
  split at hs
  · rename_i kt et b hu
    split at hs
    · rename_i es cl hb
      split at hs
      · cases hs
      · rename_i hko
        cases hm with
        | map _ l hl =>
          obtain ⟨ob, ho, hbr⟩ := r.of_blk hb hl
          obtain ⟨ces, rfl, e1, e2⟩ := mapBR_inv hbr
          have hE := map_EsR e1 e2
          obtain ⟨ku, hku⟩ := keyOk_under hko
          have hck : (Instr.checkKey false 10000 kt ck).run P w = .ok () w := checkKey_sound hk hko _ _ (by decide)
          split at hs
          · cases hs
          · rename_i i v0 hf
            obtain ⟨hka, hs2⟩ := cond_none hs
            cases hs2
            obtain ⟨res', h1, h2⟩ := findKey_sound (w := w) hk hku hE hf
            cases res' with
            | none => exact h2.elim
            | some p =>
              obtain ⟨j, c0⟩ := p
              obtain ⟨rfl, _⟩ := h2
              unfold keyAt at hka
              split at hka
              · rename_i e he
                have hke := sameKey_eq hka
                obtain ⟨c, hc⟩ := EsR.at e1 he
                obtain ⟨w1, k1, s1, s2, s3, s4, s5, s6⟩ := keyThatStays_run (P := P) (w := w) ((((ces[i]?).map (·.key)).getD ck)) ck
                have ho1 : w1.heap[l.blk]? = some (.map ces cl) := by rw [s3]; exact ho
                obtain ⟨w2, t1, t2, t3, t4, t5, t6, t7⟩ := run_setObj' (P := P) (o := .map (ces.modify i fun e => { e with key := k1, val := cv }) cl) ho1
                have hkk : VR φ k k1 := by
                  rcases s2 with rfl | rfl
                  · rw [hc]; simp only [Option.map_some, Option.getD_some]
                    have := (e2 i e c he hc).1
                    rwa [hke] at this
                  · exact hk
                refine ⟨w2, ?_, ?_, ?_⟩
                · simp only [Instr.mapUpdate, Sem.run_bind, run_underlying _ _ hu, Result.andThen_ok, run_getObj_map ho, hck, h1]
                  rw [s1]
                  simp only [Result.andThen_ok]
                  exact t1
                · exact r.turn hb hl (map_modify (f := fun e => { e with key := k1, val := cv }) e1 e2 hv (fun c => ⟨rfl, rfl⟩) (fun e' c' he' hc' => by
                    rw [he] at he'; cases he'
                    rw [hke]; exact hkk)) t2 (fun k hk => by rw [t3 k hk, s3])
                · exact Fr.turn hb hl (fun k hk => by rw [t3 k hk, s3]) (by rw [t4, s3]) (by rw [t5, s4]) (by rw [t6, s5]) (by rw [t7, s6])
              · cases hka
          · rename_i hf
            cases hs
            obtain ⟨res', h1, h2⟩ := findKey_sound (w := w) hk hku hE hf
            cases res' with
            | some p => exact h2.elim
            | none =>
              obtain ⟨w2, t1, t2, t3, t4, t5, t6, t7⟩ := run_setObj' (P := P) (o := .map (ces.push { key := ck, val := cv, born := cl }) (cl + 1)) ho
              refine ⟨w2, ?_, ?_, ?_⟩
              · simp only [Instr.mapUpdate, Sem.run_bind, run_underlying _ _ hu, Result.andThen_ok, run_getObj_map ho, hck, h1]
                exact t1
              · exact r.turn hb hl (map_push e1 e2 hk hv) t2 t3
              · exact Fr.turn hb hl t3 t4 t5 t6 t7
    · cases hs
  · cases hs

theorem mapEntry_sound (r : Rel h nx φ w) {t : TypeId} {m k v : AV} {cm ck : Value} {h' : T AB} (hs : mapEntryA P h t m k = some (v, h')) (hm : VR φ m cm) (hk : VR φ k ck) :
    ∃ cv w', (Instr.mapEntry t cm ck).run P w = .ok cv w' ∧ VR φ v cv ∧ Rel h' nx φ w' ∧ Fr h nx φ w h' nx φ w' := by
  unfold mapEntryA at hs
  split at hs
  · rename_i kt et b hu
    split at hs
    · rename_i es cl hb
      split at hs
      · cases hs
      · rename_i hko
        cases hm with
        | map _ l hl =>
          obtain ⟨ob, ho, hbr⟩ := r.of_blk hb hl
          obtain ⟨ces, rfl, e1, e2⟩ := mapBR_inv hbr
          have hE := map_EsR e1 e2
          obtain ⟨ku, hku⟩ := keyOk_under hko
          have hck : (Instr.checkKey false 10000 kt ck).run P w = .ok () w := checkKey_sound hk hko _ _ (by decide)
          split at hs
          · cases hs
          · rename_i i v0 hf
            obtain ⟨res', h1, h2⟩ := findKey_sound (w := w) hk hku hE hf
            cases res' with
            | none => exact h2.elim
            | some p =>
              obtain ⟨j, c0⟩ := p
              obtain ⟨rfl, hv0⟩ := h2
              split at hs
              · rename_i e he
                obtain ⟨hka, hs2⟩ := cond_none hs
                cases hs2
                have hke := sameKey_eq hka
                obtain ⟨c, hc⟩ := EsR.at e1 he
                obtain ⟨w1, k1, s1, s2, s3, s4, s5, s6⟩ := keyThatStays_run (P := P) (w := w) ((((ces[i]?).map (·.key)).getD ck)) ck
                have ho1 : w1.heap[l.blk]? = some (.map ces cl) := by rw [s3]; exact ho
                obtain ⟨w2, t1, t2, t3, t4, t5, t6, t7⟩ := run_setObj' (P := P) (o := .map (ces.modify i fun e => { e with key := k1 }) cl) ho1
                have hkk : VR φ k k1 := by
                  rcases s2 with rfl | rfl
                  · rw [hc]; simp only [Option.map_some, Option.getD_some]
                    have := (e2 i e c he hc).1
                    rwa [hke] at this
                  · exact hk
                refine ⟨.tuple #[c0, goInt c.born], w2, ?_, ?_, ?_, ?_⟩
                · simp only [Instr.mapEntry, Sem.run_bind, run_underlying _ _ hu, Result.andThen_ok, run_getObj_map ho, hck, h1]
                  rw [s1]
                  simp only [Result.andThen_ok]
                  rw [t1]
                  simp only [Result.andThen_ok, hc, Option.map_some, Option.getD_some, Sem.run_pure]
                · have hbn := (e2 i e c he hc).2.2
                  rw [hbn]
                  exact (VRs.cons hv0 (VRs.cons (.int _ _) VRs.nil)).tuple
                · refine r.touch hb hl ?_ t2 (fun k hk => by rw [t3 k hk, s3])
                  refine ⟨_, rfl, by simp [e1], fun j e' c' h1 h2 => ?_⟩
                  rw [Array.getElem?_modify] at h2
                  by_cases hj : i = j
                  · subst hj
                    rw [if_pos rfl, hc] at h2
                    rw [he] at h1
                    cases h1; simp at h2; subst h2
                    have := e2 i e c he hc
                    exact ⟨by rw [hke]; exact hkk, this.2.1, this.2.2⟩
                  · rw [if_neg hj] at h2
                    exact e2 j e' c' h1 h2
                · exact Fr.touch hb hl (fun k hk => by rw [t3 k hk, s3]) (by rw [t4, s3]) (by rw [t5, s4]) (by rw [t6, s5]) (by rw [t7, s6])
              · cases hs
          · rename_i hf
            split at hs
            · rename_i z hz
              cases hs
              obtain ⟨cz, z1, z2, _⟩ := zero_sound (w := w) (φ := φ) hz
              obtain ⟨res', h1, h2⟩ := findKey_sound (w := w) hk hku hE hf
              cases res' with
              | some p => exact h2.elim
              | none =>
                obtain ⟨w2, t1, t2, t3, t4, t5, t6, t7⟩ := run_setObj' (P := P) (o := .map (ces.push { key := ck, val := cz, born := cl }) (cl + 1)) ho
                refine ⟨.tuple #[cz, goInt cl], w2, ?_, ?_, ?_, ?_⟩
                · simp only [Instr.mapEntry, Sem.run_bind, run_underlying _ _ hu, Result.andThen_ok, run_getObj_map ho, hck, h1, z1]
                  rw [t1]
                  simp only [Result.andThen_ok, Sem.run_pure]
                · exact (VRs.cons z2 (VRs.cons (.int _ _) VRs.nil)).tuple
                · exact r.turn hb hl (map_push e1 e2 hk z2) t2 t3
                · exact Fr.turn hb hl t3 t4 t5 t6 t7
            · cases hs
    · cases hs
  · cases hs

theorem findBorn_sound {n : Nat} : ∀ (es : List AME) (ces : List MapEntry) (i j : Nat), es.length = ces.length → (∀ (i : Nat) (e : AME) (c : MapEntry), es[i]? = some e → ces[i]? = some c → e.born = c.born) →
    findBorn n es i = some j → i ≤ j ∧ ces.findIdx? (fun e => (e.born : Int) == Int.ofNat n) = some (j - i) := by
  intro es
  induction es with
  | nil => intro ces i j _ _ hf; cases hf
  | cons e es ih =>
    intro ces i j hl hb hf
    cases ces with
    | nil => simp at hl
    | cons c ces =>
      have hb0 := hb 0 e c rfl rfl
      simp only [findBorn] at hf
      cases hbn : Nat.beq e.born n with
      | true =>
        rw [hbn] at hf
        simp only [cond_true] at hf; cases hf
        have := beqN.1 hbn
        refine ⟨Nat.le_refl _, ?_⟩
        rw [List.findIdx?_cons]
        have : ((c.born : Int) == Int.ofNat n) = true := by rw [← hb0, this]; simp
        rw [this]; simp
      | false =>
        rw [hbn] at hf
        simp only [cond_false] at hf
        obtain ⟨h1, h2⟩ := ih ces (i + 1) j (by simpa using hl) (fun i' e' c' a b => hb (i' + 1) e' c' (by simpa using a) (by simpa using b)) hf
        refine ⟨by omega, ?_⟩
        rw [List.findIdx?_cons]
        have : ((c.born : Int) == Int.ofNat n) = false := by
          rw [← hb0]
          have hne : e.born ≠ n := fun hh => by rw [beqN.2 hh] at hbn; cases hbn
          simp [hne, Int.ofNat_inj]
        rw [this, h2]
        simp; omega

theorem entryStore_sound (r : Rel h nx φ w) {t : TypeId} {m s v : AV} {cm cs cv : Value} {h' : T AB} (hs : entryStoreA h m s v = some h') (hm : VR φ m cm) (hk : VR φ s cs) (hv : VR φ v cv) :
    ∃ w', (Instr.entryStore t cm cs cv).run P w = .ok () w' ∧ Rel h' nx φ w' ∧ Fr h nx φ w h' nx φ w' := by
  unfold entryStoreA at hs
  split at hs
  · rename_i b ik n
    split at hs
    · rename_i es cl hb
      split at hs
      · rename_i i hf
        cases hs
        cases hm with
        | map _ l hl =>
          obtain ⟨ob, ho, hbr⟩ := r.of_blk hb hl
          obtain ⟨ces, rfl, e1, e2⟩ := mapBR_inv hbr
          obtain rfl := hk.int_inv
          obtain ⟨_, hfi⟩ := findBorn_sound es ces.toList 0 i (by simpa using e1) (fun i e c a b => (e2 i e c a (by simpa using b)).2.2) hf
          have hfi' : ces.findIdx? (fun e => (e.born : Int) == Int.ofNat n) = some i := by
            have ee : ces = ces.toList.toArray := by simp
            rw [ee, List.findIdx?_toArray]
            simpa using hfi
          obtain ⟨w2, t1, t2, t3, t4, t5, t6, t7⟩ := run_setObj' (P := P) (o := .map (ces.modify i fun e => { e with val := cv }) cl) ho
          refine ⟨w2, ?_, ?_, ?_⟩
          · simp only [Instr.entryStore, Sem.run_bind, run_getObj_map ho, Result.andThen_ok, asInt, asIntOf, Sem.run_pure]
            rw [hfi']
            exact t1
          · exact r.turn hb hl (map_modify (f := fun e => { e with val := cv }) e1 e2 hv (fun c => ⟨rfl, rfl⟩) (fun e' c' he' hc' => (e2 i e' c' he' hc').1)) t2 t3
          · exact Fr.turn hb hl t3 t4 t5 t6 t7
      · cases hs
    · cases hs
  · cases hs

end Go.Abs

namespace Go.Abs

variable {P : Program} {h : T AB} {nx : Nat} {φ : Ren} {w : World} {G : Nat} {tm : T AV}

theorem lenOf_sound {x : AV} {cx : Value} {n : Nat} (hl : lenOfA x = some n) (hx : VR φ x cx) : (Builtin.lenOf cx).run P w = .ok n w := by
  unfold lenOfA at hl
  split at hl <;> cases hl
  · cases hx; rfl
  · cases hx; rfl
  · cases hx <;> rfl
  · obtain ⟨s, rfl, s1, s2⟩ := hx.str_inv
    simp only [Builtin.lenOf, Sem.run_pure, size_len, s1]

theorem bytesA_take : ∀ (l : List UInt8) (n : Nat), n ≤ l.length → VRs φ (bytesA n (enc l)) ((l.take n).map fun b => Value.int .u8 b.toNat) := by
  intro l
  induction l with
  | nil => intro n hn; have : n = 0 := by simpa using hn
           subst this; exact VRs.nil
  | cons b l ih =>
    intro n hn
    cases n with
    | zero => exact VRs.nil
    | succ n =>
      have hb : b.toNat < 256 := b.toNat_lt
      simp only [bytesA, List.take_succ_cons, List.map_cons]
      have e1 : enc (b :: l) % 256 = b.toNat := by simp only [enc]; omega
      have e2 : enc (b :: l) / 256 = enc l := by simp only [enc]; omega
      rw [e1, e2]
      exact VRs.cons (.int _ _) (ih n (by simpa using hn))

/-- Cells that are copied out of a block. -/
theorem getN_sound (r : Rel h nx φ w) {b : Nat} {cs : T AV} {n : Nat} {elem : TypeId} {opn fz : Bool} (hb : h.get b = some (.cells cs n elem opn fz)) {l : Loc} (hl : φ b = some l)
    {o k : Nat} {vs : List AV} (hg : getN cs o k = some vs) : ∃ arr : Array Value, (loadCells ⟨l.blk, l.dlt + o, none⟩ k).run P w = .ok arr w ∧ VRs φ vs arr.toList := by
  obtain ⟨cvs, hr⟩ : ∃ cvs : List Value, VRs φ vs cvs ∧ ∀ j v, cvs[j]? = some v → w.cell? ⟨l.blk, l.dlt + o + j, none⟩ = some v := by
    have hall : ∀ j v, vs[j]? = some v → ∃ c, w.cell? ⟨l.blk, l.dlt + o + j, none⟩ = some c ∧ VR φ v c := by
      intro j v hv
      have := r.cell hb hl (getN_get k o vs hg j v hv)
      rwa [← Nat.add_assoc] at this
    clear hg
    generalize l.dlt + o = off at hall
    induction vs generalizing off with
    | nil => exact ⟨[], VRs.nil, fun j v hv => by simp at hv⟩
    | cons v vs ih =>
      obtain ⟨c, h1, h2⟩ := hall 0 v (by simp)
      obtain ⟨cvs, h3, h4⟩ := ih (off + 1) (fun j u hu => by have := hall (j + 1) u (by simpa using hu); rwa [show off + (j + 1) = off + 1 + j by omega] at this)
      refine ⟨c :: cvs, VRs.cons h2 h3, fun j u hu => ?_⟩
      cases j with
      | zero => simp at hu; subst hu; exact h1
      | succ j => have := h4 j u (by simpa using hu); rwa [show off + 1 + j = off + (j + 1) by omega] at this
  have hlen : cvs.length = k := by rw [← hr.1.1]; exact getN_len _ _ _ hg
  refine ⟨cvs.toArray, ?_, by simpa using hr.1⟩
  rw [← hlen]
  exact run_loadCells _ _ cvs hr.2

theorem firstCells_sound (r : Rel h nx φ w) {x : AV} {cx : Value} {es n m : Nat} {l : List AV} (hm : lenOfA x = some m) (hn : n ≤ m) (hc : cellsOfA h es n x = some l) (hx : VR φ x cx) :
    ∃ arr : Array Value, (Builtin.firstCells es n cx).run P w = .ok arr w ∧ VRs φ l arr.toList := by
  unfold cellsOfA at hc
  split at hc
  · cases hc; cases hx; exact ⟨#[], rfl, VRs.nil⟩
  · rename_i b o _ _
    split at hc
    · rename_i hb
      cases hx with
      | slice _ _ _ _ lc hl => exact getN_sound r hb hl hc
    · cases hc
  · rename_i b o len es'
    simp only [lenOfA] at hm
    split at hc
    · cases hc; cases hm
      have : n = 0 := by omega
      subst this
      refine ⟨#[], ?_, VRs.nil⟩
      cases hx <;> simp [Builtin.firstCells, loadCells, loadCellsFrom]
    · split at hc
      · rename_i hb
        cases hx with
        | sliceU _ _ _ _ _ lc hl _ _ => exact getN_sound r hb hl hc
      · cases hc
  · rename_i c
    obtain ⟨_, hc2⟩ := cond_none hc
    cases hc2
    obtain ⟨s, rfl, s1, s2⟩ := hx.str_inv
    simp only [lenOfA] at hm; cases hm
    refine ⟨_, rfl, ?_⟩
    subst s2
    have := bytesA_take (φ := φ) s.data.toList n (by omega)
    have e : ((s.extract 0 n).data.map fun b => (Value.int .u8 b.toNat)).toList = (s.data.toList.take n).map fun b => Value.int .u8 b.toNat := by
      simp [ByteArray.data_extract]
    rw [e]; exact this
  · cases hc

def appended (elem : TypeId) (size n : Nat) (zeros : Bool) (x : Value) : Sem (Array Value) :=
    if !zeros then Builtin.firstCells size n x
    else if n * size = 0 then pure #[]
    else do pure (Builtin.zeroCells (← zeroValue elem).cells n)

/-- append, when all its words are read. -/
def appendTail (elem : TypeId) (base : Option Addr) (sLen sCap size n : Nat) (zeros : Bool) (x : Value) : Sem Value := do
  let need := sLen + n
  if need ≤ sCap then
    let new ← appended elem size n zeros x
    if let some a := base then storeCells (a.add (sLen * size)) new.toList
    pure (.slice base need sCap)
  else
    if (need : Int) > IntKind.i64.max ∧ (zeros ∨ (← typeInfo elem).bytes = 0) then runtimePanic (.error "growslice: len out of range")
    if Builtin.nextslicecap need sCap * (← typeInfo elem).bytes > 2 ^ 48 then (if zeros then runtimePanic (.error "growslice: len out of range") else do
      if !(← Builtin.mayShare size sLen n base x) then mark .noRoom
      unsupported (.resourceLimit "append: a slice or a string whose bytes no memory bears"))
    let newCap ← choose (.appendCap need sCap elem)
    askRoom (newCap * (← typeInfo elem).bytes)
    let old ← Builtin.firstCells size sLen (.slice base sLen sCap)
    let new ← appended elem size n zeros x
    let rest := Builtin.zeroCells (← zeroValue elem).cells (newCap - need)
    pure (.slice (some (← newRow elem (old ++ new ++ rest))) need newCap)

def isIntD : TypeDesc → Bool
  | .int _ => true
  | _ => false

theorem append_run {ts : Array TypeId} {ty sT xT elem : TypeId} {d : TypeDesc} {base : Option Addr} {sLen sCap size n : Nat} {x : Value} (h0 : ts[0]? = some sT) (h1 : ts[1]? = some xT)
    (hu : P.underlying sT = some (.slice elem)) (hsz : tsize P elem = some size) (hd : P.underlying xT = some d)
    (hn : (isIntD d = false ∧ (Builtin.lenOf x).run P w = .ok n w) ∨ (isIntD d = true ∧ x = .int .i64 (Int.ofNat n) ∧ n ≤ 4611686018427387904 ∧ ∃ i, P.info? elem = some i ∧ n * i.bytes ≤ 281474976710656)) :
    (Builtin.append_ ts ty #[.slice base sLen sCap, x]).run P w = (appendTail elem base sLen sCap size n (isIntD d) x).run P w := by
  rcases hn with ⟨hd', hn⟩ | ⟨hd', hn⟩
  · unfold Builtin.append_ appendTail appended
    cases d <;> first | (cases hd'; done) | skip
    all_goals
     simp only [h0, h1, List.getElem?_toArray, List.getElem?_cons_zero, List.getElem?_cons_succ, Sem.run_bind, run_underlying _ _ hu, run_sizeOf _ _ hsz, run_underlying _ _ hd, Result.andThen_ok, Sem.run_pure, hd', hn,
      Bool.false_eq_true, if_false]
     rfl
  · obtain ⟨rfl, h62, i, hi, hb⟩ := hn
    unfold Builtin.append_ appendTail appended
    have hb' : ¬ ((Int.ofNat n) * (i.bytes : Int) > 2 ^ 48) := by
      have h48 : (2 : Int) ^ 48 = ((281474976710656 : Nat) : Int) := by decide
      have := Int.ofNat_le.2 hb
      rw [Int.natCast_mul] at this
      rw [h48]
      have e : (Int.ofNat n) = (n : Int) := rfl
      rw [e]; omega
    have hneg : ¬ (Int.ofNat n < 0) := by simp
    cases d <;> first | (cases hd'; done) | skip
    simp only [h0, h1, List.getElem?_toArray, List.getElem?_cons_zero, List.getElem?_cons_succ, Sem.run_bind, run_underlying _ _ hu, run_sizeOf _ _ hsz, run_underlying _ _ hd, Result.andThen_ok, Sem.run_pure, hd',
      if_true, asInt, asIntOf, wrap_small h62, hneg, if_false, run_typeInfo _ _ hi, hb']
    rfl

end Go.Abs

namespace Go.Abs

variable {P : Program} {h : T AB} {nx : Nat} {φ : Ren} {w : World} {G : Nat} {tm : T AV}

theorem zeroCells_eq (a : Array Value) (n : Nat) : Builtin.zeroCells a n = (Array.range (n * a.size)).map (a[· % a.size]!) := rfl

theorem bytesA_len : ∀ (n c : Nat), (bytesA n c).length = n := by
  intro n
  induction n with
  | zero => intro c; rfl
  | succ n ih => intro c; simp [bytesA, ih]

/-- What is appended, and what is read beforehand. -/
theorem newA_sound (r : Rel h nx φ w) {i : TypeInfo} {elem xT : TypeId} {d : TypeDesc} (hi : P.info? elem = some i) {z : AV} (hz : tzero P elem = some z) (hzl : z.cells.length = i.size)
    (hd : P.underlying xT = some d) {x : AV} {cx : Value} {n : Nat} {new : List AV} (hn : newA P h i z.cells xT x = some (n, new)) (hx : VR φ x cx) :
    ((isIntD d = false ∧ (Builtin.lenOf cx).run P w = .ok n w) ∨ (isIntD d = true ∧ cx = .int .i64 (Int.ofNat n) ∧ n ≤ 4611686018427387904 ∧ ∃ i, P.info? elem = some i ∧ n * i.bytes ≤ 281474976710656)) ∧
    ∃ arr : Array Value, (appended elem i.size n (isIntD d) cx).run P w = .ok arr w ∧ VRs φ new arr.toList ∧ new.length = n * i.size := by
  unfold newA at hn
  rw [hd] at hn
  split at hn
  · rename_i k hdd
    cases hdd
    split at hn
    · rename_i m
      obtain ⟨hc, hn2⟩ := cond_none hn
      cases hn2
      rw [Bool.and_eq_true] at hc
      obtain rfl := hx.int_inv
      refine ⟨.inr ⟨rfl, rfl, Nat.le_of_ble_eq_true hc.1, i, hi, Nat.le_of_ble_eq_true hc.2⟩, ?_⟩
      obtain ⟨cz, z1, z2, _⟩ := zero_sound (w := w) (φ := φ) hz
      have hcs := cells_sound' z2
      have hcz : cz.cells.size = i.size := by have := hcs.1; simp at this; omega
      unfold appended
      simp only [isIntD, Bool.not_true, Bool.false_eq_true, if_false]
      by_cases h0 : n * i.size = 0
      · rw [if_pos h0]
        have hnil : repA n z.cells = [] := List.eq_nil_of_length_eq_zero (by rw [repA_len, hzl]; exact h0)
        exact ⟨#[], rfl, by rw [hnil]; exact VRs.nil, by rw [repA_len, hzl]⟩
      · rw [if_neg h0]
        refine ⟨Builtin.zeroCells cz.cells n, ?_, ?_, by rw [repA_len, hzl]⟩
        · simp only [Sem.run_bind, z1, Result.andThen_ok, Sem.run_pure]
        · rw [zeroCells_eq]; exact rep_VRs hcs n
    · cases hn
  · rename_i d' hdn hdd
    cases hdd
    have hf : isIntD d = false := by
      cases d <;> first | rfl | exact absurd rfl (hdn _)
    split at hn
    · rename_i m hm
      split at hn
      · rename_i l hl
        cases hn
        refine ⟨.inl ⟨hf, lenOf_sound hm hx⟩, ?_⟩
        obtain ⟨arr, h1, h2⟩ := firstCells_sound (P := P) r hm (Nat.le_refl _) hl hx
        refine ⟨arr, ?_, h2, ?_⟩
        · unfold appended
          simp only [hf, Bool.not_false, if_true]; exact h1
        · -- so many cells
          unfold cellsOfA at hl
          split at hl
          · cases hl; cases hm; simp
          · split at hl
            · exact getN_len _ _ _ hl
            · cases hl
          · split at hl
            · cases hl; cases hm; simp
            · split at hl
              · exact getN_len _ _ _ hl
              · cases hl
          · obtain ⟨hc1, hl2⟩ := cond_none hl
            cases hl2
            rw [beqN.1 hc1, bytesA_len, Nat.mul_one]
          · cases hl
      · cases hn
    · cases hn
  · rename_i hdd; cases hdd


/-- What an operation that turns memory comes to. -/
def Turns (P : Program) (h : T AB) (nx : Nat) (φ : Ren) (w : World) (s : Sem Value) (v : AV) (h' : T AB) (nx' : Nat) : Prop :=
  ∃ cv w' φ', s.run P w = .ok cv w' ∧ VR φ' v cv ∧ Rel h' nx' φ' w' ∧ Fr h nx φ w h' nx' φ' w'

theorem growBy_le (k : Nat) : ∀ (f c : Nat), Builtin.growBy k f c ≤ max c (k + (k + 768) / 4) := by
  intro f
  induction f with
  | zero => intro c; simp only [Builtin.growBy]; omega
  | succ f ih =>
    intro c
    simp only [Builtin.growBy]
    split
    · omega
    · have := ih (c + (c + 768) / 4)
      omega

theorem nextslicecap_le (k c : Nat) : Builtin.nextslicecap k c ≤ 2 * k + 2 * c + 2000 := by
  unfold Builtin.nextslicecap
  split
  · omega
  · split
    · omega
    · have := growBy_le k 4 c; omega

theorem nextslicecap_lt {k c : Nat} (hc : c < k) : Builtin.nextslicecap k c ≤ 2 * k + 2000 := by
  unfold Builtin.nextslicecap
  split
  · omega
  · split
    · omega
    · have := growBy_le k 4 c; omega

/-- append into a new block. -/
theorem tail_new (r : Rel h nx φ w) {elem : TypeId} {i : TypeInfo} (hi : P.info? elem = some i) {z : AV} (hz : tzero P elem = some z) (hzl : z.cells.length = i.size) (hib : 1 ≤ i.bytes)
    {base : Option Addr} {sLen sCap n : Nat} {zs : Bool} {cx : Value} (hlt : sCap < sLen + n) (hcap : Builtin.nextslicecap (sLen + n) sCap * i.bytes ≤ 281474976710656) (hneed : (sLen + n) * i.bytes ≤ 281474976710656)
    {old new : List AV} {aold anew : Array Value}
    (ho : (Builtin.firstCells i.size sLen (.slice base sLen sCap)).run P { w with drawn := w.drawn + 1 } = .ok aold { w with drawn := w.drawn + 1 }) (ho2 : VRs φ old aold.toList) (ho3 : old.length = sLen * i.size)
    (hn : (appended elem i.size n zs cx).run P { w with drawn := w.drawn + 1 } = .ok anew { w with drawn := w.drawn + 1 }) (hn2 : VRs φ new anew.toList) (hn3 : new.length = n * i.size)
    {d : Nat} {h0 : T AB} (hh0 : h0 = h.del d ∨ h0 = h) :
    Turns P h nx φ w (appendTail elem base sLen sCap i.size n zs cx) (.sliceU nx 0 (sLen + n) i.size)
      (h0.set nx (.cells (T.ofList .leaf 0 (old ++ new)) ((sLen + n) * i.size) elem true false)) (nx + 1) := by
  obtain ⟨cap, hcapE⟩ : ∃ cap, cap = (Question.appendCap (sLen + n) sCap elem).cut (w.tape w.drawn (.appendCap (sLen + n) sCap elem)) := ⟨_, rfl⟩
  have hge : sLen + n ≤ cap := by rw [hcapE]; simp [Question.cut]
  have hch : (choose (.appendCap (sLen + n) sCap elem)).run P w = .ok cap { w with drawn := w.drawn + 1 } := by
    rw [run_choose, hcapE]; rfl
  obtain ⟨w1, hw1⟩ : ∃ w1 : World, w1 = { w with drawn := w.drawn + 1 } := ⟨_, rfl⟩
  have hw1h : w1.heap = w.heap := by rw [hw1]
  rw [← hw1] at hch ho hn
  obtain ⟨cz, z1, z2, _⟩ := zero_sound (w := w1) (φ := φ) hz
  have hcs := cells_sound' z2
  have hcz : cz.cells.size = i.size := by have := hcs.1; simp at this; omega
  obtain ⟨arr, harr⟩ : ∃ arr : Array Value, arr = aold ++ anew ++ Builtin.zeroCells cz.cells (cap - (sLen + n)) := ⟨_, rfl⟩
  have hold : aold.size = sLen * i.size := by have := ho2.1; simp at this; omega
  have hnew : anew.size = n * i.size := by have := hn2.1; simp at this; omega
  have harrz : arr.size = cap * i.size := by
    rw [harr, zeroCells_eq]
    simp only [Array.size_append, hold, hnew, Array.size_map, Array.size_range, hcz]
    rw [← Nat.add_mul, ← Nat.add_mul]
    congr 1; omega
  have hbr : BR φ (.cells (T.ofList .leaf 0 (old ++ new)) ((sLen + n) * i.size) elem true false) ⟨w.heap.size, 0, cap * i.size⟩ (.cells arr elem) := by
    refine ⟨arr, 0, 0, rfl, harrz, ?_, (fun hh => by cases hh), fun k v hv => ?_, fun _ => ⟨fun k _ hk => by omega, fun hh => by cases hh⟩⟩
    · simp only [Nat.zero_add]; exact Nat.mul_le_mul_right _ hge
    · rw [T.get_ofList] at hv
      split at hv
      · have hb := ho2.append hn2
        obtain ⟨cv, h1, h2⟩ := hb.get (i := k) (v := v) (by simpa using hv)
        have hk2 : k < (aold ++ anew).size := by
          rcases Nat.lt_or_ge k (aold.toList ++ anew.toList).length with hh | hh
          · simpa using hh
          · rw [List.getElem?_eq_none hh] at h1; cases h1
        refine ⟨?_, cv, ?_, h2⟩
        · simp only [Array.size_append, hold, hnew] at hk2
          rw [Nat.add_mul]; exact hk2
        · rw [Nat.zero_add, harr, Array.getElem?_append_left hk2, ← Array.getElem?_toList, Array.toList_append]
          exact h1
      · rw [T.get_leaf] at hv; cases hv
  have hnone : φ nx = none := r.dom nx (Nat.le_refl _)
  obtain ⟨w2, hw2⟩ : ∃ w2 : World, w2 = { w1 with heap := w1.heap.push (.cells arr elem) } := ⟨_, rfl⟩
  have hw2h : w2.heap = w.heap.push (.cells arr elem) := by rw [hw2, hw1]
  refine ⟨.slice (some ⟨w.heap.size, 0, none⟩) (sLen + n) cap, w2, φ.upd nx ⟨w.heap.size, 0, cap * i.size⟩, ?_, ?_, ?_, ?_⟩
  · unfold appendTail
    simp only
    rw [if_neg (by omega)]
    have hb0 : ¬ (i.bytes = 0) := by omega
    have hx1 : ¬ (((sLen + n : Nat) : Int) > IntKind.i64.max) := by
      have hmx : IntKind.i64.max = ((9223372036854775807 : Nat) : Int) := by decide
      rw [hmx]
      have : (sLen + n) * 1 ≤ (sLen + n) * i.bytes := Nat.mul_le_mul_left _ hib
      omega
    have hx2 : ¬ (Builtin.nextslicecap (sLen + n) sCap * i.bytes > 2 ^ 48) := by omega
    simp only [Sem.run_bind, run_typeInfo _ _ hi, Result.andThen_ok]
    rw [if_neg (fun hh => hx1 hh.1)]
    simp only [Sem.run_bind, run_typeInfo _ _ hi, Result.andThen_ok]
    rw [if_neg hx2]
    simp only [Sem.run_bind, hch, Result.andThen_ok, run_typeInfo _ _ hi, run_askRoom, ho, hn, z1, newRow, run_newObj, Sem.run_pure]
    rw [← harr, hw2, hw1h]
  · exact .sliceU nx 0 _ _ cap ⟨w.heap.size, 0, cap * i.size⟩ (Ren.upd_self _ _ _) hge (by simp)
  · rcases hh0 with rfl | rfl
    · exact (r.del d).new hnone (by omega) (by omega) (hbr.mono (Ren.le_upd _ hnone)) hw2h
    · exact r.new hnone (by omega) (by omega) (hbr.mono (Ren.le_upd _ hnone)) hw2h
  · rcases hh0 with rfl | rfl
    · exact (Fr.del (nx := nx) (w := w) (φ := φ) (h := h) d).trans (Fr.new (r.del d) (Nat.le_refl _) (by omega) hw2h (by rw [hw2, hw1]) (by rw [hw2, hw1]) (by rw [hw2, hw1]))
    · exact Fr.new r (Nat.le_refl _) (by omega) hw2h (by rw [hw2, hw1]) (by rw [hw2, hw1]) (by rw [hw2, hw1])

end Go.Abs

namespace Go.Abs

variable {P : Program} {h : T AB} {nx : Nat} {φ : Ren} {w : World} {G : Nat} {tm : T AV}

/-- A block's tail is tracked by a new name, the old one no more. -/
theorem Rel.retrack (r : Rel h nx φ w) {b : Nat} {cs : T AV} {q : Nat} {e : TypeId} {opn : Bool} (hb : h.get b = some (.cells cs q e opn false)) {l : Loc} (hl : φ b = some l) {o n' : Nat} {cs' : T AV}
    (hsz : l.dlt + o + n' ≤ l.sz) (hcs : ∀ k v, cs'.get k = some v → k < n' ∧ cs.get (o + k) = some v) :
    Rel ((h.del b).set nx (.cells cs' n' e true false)) (nx + 1) (φ.upd nx ⟨l.blk, l.dlt + o, l.sz⟩) w ∧
    Fr h nx φ w ((h.del b).set nx (.cells cs' n' e true false)) (nx + 1) (φ.upd nx ⟨l.blk, l.dlt + o, l.sz⟩) w := by
  have hnone : φ nx = none := r.dom nx (Nat.le_refl _)
  have hbn : b ≠ nx := fun hh => by rw [hh] at hl; rw [hnone] at hl; cases hl
  refine ⟨⟨fun j hj => by rw [Ren.upd_ne _ _ (by omega)]; exact r.dom j (by omega), fun j bj hj => ?_, fun j k bj bk lj lk hj hk ej ek he => ?_⟩, ?_⟩
  · rw [T.get_set] at hj
    by_cases hn : j = nx
    · subst hn
      simp at hj; subst hj
      obtain ⟨ob, ho, hbr⟩ := r.of_blk hb hl
      obtain ⟨c, lo, hi, rfl, h2, h3, h4, h5, h6⟩ := hbr.cells_inv
      refine ⟨_, _, Ren.upd_self _ _ _, ho, c, lo, hi, rfl, h2, hsz, (fun hh => by cases hh), fun k v hv => ?_, fun hh => ⟨(h6 hh).1, fun hh => by cases hh⟩⟩
      obtain ⟨hk, hv'⟩ := hcs k v hv
      obtain ⟨_, cv, hcv, hr⟩ := h5 _ v hv'
      exact ⟨hk, cv, by rw [← hcv]; simp only [Nat.add_assoc], hr.mono (Ren.le_upd _ hnone)⟩
    · rw [if_neg hn, T.get_del] at hj
      by_cases hjb : j = b
      · rw [if_pos hjb] at hj; cases hj
      · rw [if_neg hjb] at hj
        obtain ⟨lj, oj, h1, h2, h3⟩ := r.blk j bj hj
        exact ⟨lj, oj, by rw [Ren.upd_ne _ _ hn]; exact h1, h2, h3.mono (Ren.le_upd _ hnone)⟩
  · rw [T.get_set] at hj hk
    have key : ∀ i bi li, (if i = nx then some (AB.cells cs' n' e true false) else (h.del b).get i) = some bi → φ.upd nx ⟨l.blk, l.dlt + o, l.sz⟩ i = some li →
        ∃ i' bi' li', h.get i' = some bi' ∧ φ i' = some li' ∧ li'.blk = li.blk ∧ (i' = b → i = nx) ∧ (i' ≠ b → i = i') := by
      intro i bi li h1 h2
      by_cases hn : i = nx
      · subst hn
        rw [Ren.upd_self] at h2; cases h2
        exact ⟨b, _, l, hb, hl, rfl, fun _ => rfl, fun hh => absurd rfl hh⟩
      · rw [if_neg hn, T.get_del] at h1
        rw [Ren.upd_ne _ _ hn] at h2
        by_cases hib : i = b
        · rw [if_pos hib] at h1; cases h1
        · rw [if_neg hib] at h1
          exact ⟨i, bi, li, h1, h2, rfl, fun hh => absurd hh hib, fun _ => rfl⟩
    obtain ⟨j', bj', lj', a1, a2, a3, a4, a5⟩ := key j bj lj hj ej
    obtain ⟨k', bk', lk', c1, c2, c3, c4, c5⟩ := key k bk lk hk ek
    have := r.inj j' k' bj' bk' lj' lk' a1 c1 a2 c2 (by rw [a3, c3]; exact he)
    subst this
    by_cases hjb : j' = b
    · rw [a4 hjb, c4 hjb]
    · rw [a5 hjb, c5 hjb]
  · refine ⟨fun j hj => Ren.upd_ne _ _ (by omega), by omega, Nat.le_refl _, fun _ _ _ => rfl, fun k ⟨j, bj, lj, a, c, he⟩ _ => ?_, rfl, rfl, rfl⟩
    rw [T.get_set] at a
    by_cases hn : j = nx
    · subst hn
      rw [Ren.upd_self] at c; cases c
      exact ⟨b, _, l, hb, hl, he⟩
    · rw [if_neg hn, T.get_del] at a
      rw [Ren.upd_ne _ _ hn] at c
      by_cases hjb : j = b
      · rw [if_pos hjb] at a; cases a
      · rw [if_neg hjb] at a; exact ⟨j, bj, lj, a, c, he⟩

/-- append in its place. -/
theorem tail_in {elem : TypeId} {i : TypeInfo} {b : Nat} {l : Loc} {o sLen sCap n : Nat} {zs : Bool} {cx : Value} (r : Rel h nx φ w) (hle : sLen + n ≤ sCap) {new : List AV} {anew : Array Value}
    (hn : (appended elem i.size n zs cx).run P w = .ok anew w) {φ1 : Ren} {h1 : T AB} {nx1 : Nat} (r1 : Rel h1 nx1 φ1 w) (f1 : Fr h nx φ w h1 nx1 φ1 w)
    (hn2 : VRs φ new anew.toList) (hone : isOne new = true) {cs : T AV} {q : Nat} {e : TypeId} {opn : Bool} (hb : h1.get b = some (.cells cs q e opn false)) (hl : φ1 b = some l) (hq : o + sLen * i.size + new.length ≤ q) {v : AV}
    (hv : VR φ1 v (.slice (some ⟨l.blk, l.dlt + o, none⟩) (sLen + n) sCap)) :
    Turns P h nx φ w (appendTail elem (some ⟨l.blk, l.dlt + o, none⟩) sLen sCap i.size n zs cx) v (h1.set b (.cells (setL cs (o + sLen * i.size) new) q e opn false)) nx1 := by
  obtain ⟨w', s1, s2, s3⟩ := Rel.storeL' (P := P) r1 (hn2.mono (r.le f1)) hone hb hl (o := o + sLen * i.size) (by omega)
  refine ⟨_, w', φ1, ?_, hv, s2, f1.trans s3⟩
  unfold appendTail
  simp only
  rw [if_pos hle]
  simp only [Sem.run_bind, hn, Result.andThen_ok, Addr.add_none, Nat.add_assoc]
  rw [s1]
  rfl

theorem ofList_get (l : List AV) (k : Nat) : (T.ofList .leaf 0 l).get k = l[k]? := by
  rw [T.get_ofList]
  split
  · simp
  · rename_i hh
    rw [T.get_leaf]
    symm
    rw [List.getElem?_eq_none]
    simp at hh; exact hh

theorem BR.same_get {cs cs' : T AV} {n : Nat} {elem : TypeId} {opn fz : Bool} (hg : ∀ k v, cs'.get k = some v → cs.get k = some v) {φ : Ren} {l : Loc} {o : Obj} (hb : BR φ (.cells cs n elem opn fz) l o) :
    BR φ (.cells cs' n elem opn fz) l o := by
  obtain ⟨c, lo, hi, h1, h2, h3, h4, h5, h6⟩ := hb.cells_inv
  exact ⟨c, lo, hi, h1, h2, h3, h4, fun k v hv => h5 k v (hg k v hv), h6⟩

theorem Rel.same {i : Nat} {B1 B2 : AB} (r : Rel (h.set i B1) nx φ w) (hB : ∀ (φ : Ren) (l : Loc) (o : Obj), BR φ B1 l o → BR φ B2 l o) : Rel (h.set i B2) nx φ w := by
  have hg : (h.set i B1).get i = some B1 := T.get_set_self _ _ _
  obtain ⟨l, o, h1, h2, h3⟩ := r.blk i B1 hg
  have := r.turn hg h1 (hB _ _ _ h3) h2 (fun _ _ => rfl)
  rwa [T.set_set] at this

theorem Fr.same {h0 : T AB} {nx0 : Nat} {φ0 : Ren} {w0 : World} {i : Nat} {B1 B2 : AB} (f : Fr h0 nx0 φ0 w0 (h.set i B1) nx φ w) : Fr h0 nx0 φ0 w0 (h.set i B2) nx φ w where
  ren := f.ren
  nx := f.nx
  size := f.size
  old := f.old
  own := fun b ⟨j, bj, lj, a, c, e⟩ hb => by
    apply f.own b _ hb
    rw [T.get_set] at a
    by_cases hj : j = i
    · subst hj; exact ⟨j, B1, lj, T.get_set_self _ _ _, c, e⟩
    · rw [if_neg hj] at a
      exact ⟨j, bj, lj, by rw [T.get_set, if_neg hj]; exact a, c, e⟩
  os := f.os
  tape := f.tape
  output := f.output

theorem append_sound (r : Rel h nx φ w) {sT xT ty : TypeId} {ts : Array TypeId} {s x v : AV} {cs cx : Value} {h' : T AB} {nx' : Nat} (ha : appendA P h nx sT xT s x = some (v, h', nx'))
    (ht0 : ts[0]? = some sT) (ht1 : ts[1]? = some xT) (hs : VR φ s cs) (hx : VR φ x cx) : Turns P h nx φ w (Builtin.append_ ts ty #[cs, cx]) v h' nx' := by
  unfold appendA at ha
  split at ha
  · rename_i e hu
    split at ha
    · rename_i i z hi hz
      split at ha
      · cases ha
      · rename_i es hes0
        have hes : i.size = es + 1 := hes0
        clear hes0
        replace ha := cond_none ha; obtain ⟨hc, ha⟩ := ha
        rw [Bool.and_eq_true] at hc
        have hzl : z.cells.length = i.size := by rw [hes]; exact beqN.1 hc.1
        have hib := Nat.le_of_ble_eq_true hc.2
        have hsz : tsize P e = some i.size := by simp [tsize, hi]
        split at ha
        · cases ha
        · rename_i n new hnew
          replace ha := cond_none ha; obtain ⟨hc2, ha⟩ := ha
          rw [Bool.and_eq_true] at hc2
          have hone := hc2.1
          obtain ⟨d, hd⟩ : ∃ d, P.underlying xT = some d := by
            unfold newA at hnew
            cases hd : P.underlying xT with
            | none => rw [hd] at hnew; cases hnew
            | some d => exact ⟨d, rfl⟩
          obtain ⟨hpre, arr, hap, hap2, hap3⟩ := newA_sound (w := w) r hi hz hzl hd hnew hx
          obtain ⟨w1, hw1⟩ : ∃ w1 : World, w1 = { w with drawn := w.drawn + 1 } := ⟨_, rfl⟩
          have hw1h : w1.heap = w.heap := by rw [hw1]
          have r1 : Rel h nx φ w1 := r.drawn hw1h
          obtain ⟨_, arr1, hap1, hap12, _⟩ := newA_sound (w := w1) r1 hi hz hzl hd hnew hx
          have run : ∀ (base : Option Addr) (sLen sCap : Nat), (Builtin.append_ ts ty #[.slice base sLen sCap, cx]).run P w = (appendTail e base sLen sCap i.size n (isIntD d) cx).run P w :=
            fun base sLen sCap => append_run ht0 ht1 hu hsz hd hpre
          have turn : ∀ (base : Option Addr) (sLen sCap : Nat), Turns P h nx φ w (appendTail e base sLen sCap i.size n (isIntD d) cx) v h' nx' → Turns P h nx φ w (Builtin.append_ ts ty #[.slice base sLen sCap, cx]) v h' nx' := by
            intro base sLen sCap ⟨cv, w', φ', t1, t2⟩
            exact ⟨cv, w', φ', by rw [run]; exact t1, t2⟩
          have e48 : (281474976710656 : Nat) = 281474976710656 := rfl
          cases n with
          | zero =>
            dsimp only at ha
            have hnew0 : new = [] := List.eq_nil_of_length_eq_zero (by rw [hap3]; simp)
            subst hnew0
            have harr : arr.toList = [] := List.eq_nil_of_length_eq_zero (by rw [← hap2.1]; rfl)
            have same : ∀ (base : Option Addr) (sLen sCap : Nat), sLen ≤ sCap → VR φ v (.slice base sLen sCap) → h' = h → nx' = nx → Turns P h nx φ w (Builtin.append_ ts ty #[.slice base sLen sCap, cx]) v h' nx' := by
              intro base sLen sCap hle hv eh en
              subst eh; subst en
              apply turn
              refine ⟨_, w, φ, ?_, hv, r, Fr.refl _ _ _ _⟩
              unfold appendTail
              simp only
              rw [if_pos (by omega)]
              simp only [Sem.run_bind, hap, Result.andThen_ok, harr]
              cases base <;> rfl
            split at ha
            · cases ha; cases hs; exact same _ _ _ (Nat.le_refl _) .nilSlice rfl rfl
            · rename_i b o len cap
              replace ha := cond_none ha; obtain ⟨hle, ha⟩ := ha
              cases ha
              cases hs with
              | slice _ _ _ _ l hl => exact same _ _ _ (Nat.le_of_ble_eq_true hle) (.slice b o len cap l hl) rfl rfl
            · rename_i b o len es'
              cases ha
              cases hs with
              | sliceU _ _ _ _ cap l hl hc hs => exact same _ _ _ hc (.sliceU b o len es' cap l hl hc hs) rfl rfl
              | sliceE _ _ _ off l hl ho => exact same _ _ _ (Nat.le_refl _) (.sliceE b o es' off l hl ho) rfl rfl
            · cases ha
          | succ m =>
            dsimp only at ha
            split at ha
            · -- of the nil slice
              replace ha := cond_none ha; obtain ⟨hb, ha⟩ := ha
              cases ha; cases hs
              apply turn
              have hb := Nat.le_of_ble_eq_true hb
              have := tail_new (P := P) (old := []) (new := new) (aold := #[]) (anew := arr1) (base := none) (sLen := 0) (sCap := 0) (n := m + 1) (zs := isIntD d) (cx := cx) (d := 0) (h0 := h) r hi hz hzl hib (by omega)
                (by
                  have h1 := nextslicecap_lt (k := 0 + (m + 1)) (c := 0) (by omega)
                  have h2 : Builtin.nextslicecap (0 + (m + 1)) 0 ≤ 2 * (m + 1) := by
                    unfold Builtin.nextslicecap; rw [if_pos (by omega)]; omega
                  exact Nat.le_trans (Nat.mul_le_mul_right _ h2) hb)
                (by exact Nat.le_trans (Nat.mul_le_mul_right _ (by omega)) hb)
                rfl VRs.nil (by simp) (by rw [← hw1]; exact hap1) hap12 hap3 (.inr rfl)
              rw [← hes]
              simpa using this
            · rename_i b o len cap
              split at ha
              · rename_i cs q e' opn fz hb
                cases hs with
                | slice _ _ _ _ l hl =>
                  cases hble : Nat.ble (len + (m + 1)) cap with
                  | true =>
                    rw [hble] at ha
                    simp only [cond_true] at ha
                    replace ha := cond_none ha; obtain ⟨hq, ha⟩ := ha
                    cases ha
                    rw [Bool.and_eq_true] at hq
                    have hq1 := Nat.le_of_ble_eq_true hq.1
                    have hfz : fz = false := by simpa using hq.2
                    subst hfz
                    apply turn
                    rw [← hes] at hq1 ⊢
                    exact tail_in (P := P) r (Nat.le_of_ble_eq_true hble) hap r (Fr.refl _ _ _ _) hap2 hone hb hl (by rw [hap3]; rw [Nat.add_mul] at hq1; omega) (.slice b o _ cap l hl)
                  | false =>
                    rw [hble] at ha
                    simp only [cond_false] at ha
                    split at ha
                    · cases ha
                    · rename_i old hold
                      replace ha := cond_none ha; obtain ⟨hq, ha⟩ := ha
                      cases ha
                      rw [Bool.and_eq_true] at hq
                      have hq2 := Nat.le_of_ble_eq_true hq.2
                      have hlt : cap < len + (m + 1) := by
                        rcases Nat.lt_or_ge cap (len + (m + 1)) with hh | hh
                        · exact hh
                        · rw [Nat.ble_eq_true_of_le hh] at hble; cases hble
                      obtain ⟨aold, o1, o2⟩ := getN_sound (P := P) r1 hb hl hold
                      apply turn
                      have := tail_new (P := P) (old := old) (new := new) (aold := aold) (anew := arr1) (base := some ⟨l.blk, l.dlt + o, none⟩) (sLen := len) (sCap := cap) (n := m + 1) (zs := isIntD d) (cx := cx) (d := 0) (h0 := h) r hi hz hzl hib hlt
                        (Nat.le_trans (Nat.mul_le_mul_right _ (nextslicecap_le _ _)) (by rw [e48]; exact hq2))
                        (Nat.le_trans (Nat.mul_le_mul_right _ (by omega)) hq2)
                        (by rw [← hw1, hes]; exact o1) o2 (by rw [getN_len _ _ _ hold, hes]) (by rw [← hw1]; exact hap1) hap12 hap3 (.inr rfl)
                      rw [← hes]
                      exact this
              · cases ha
            · rename_i b o len es'
              replace ha := cond_none ha; obtain ⟨hee, ha⟩ := ha
              have hee := beqN.1 hee
              subst hee
              split at ha
              · rename_i cs q e' opn fz hb
                cases hcnd : (Nat.ble (o + (len + (m + 1)) * (es + 1)) q && (!fz && !Nat.beq len 0)) with
                | true =>
                  rw [hcnd] at ha
                  simp only [cond_true] at ha
                  cases ha
                  simp only [Bool.and_eq_true, Bool.not_eq_true'] at hcnd
                  obtain ⟨hq1, hfz, hl0⟩ := hcnd
                  subst hfz
                  have hq1 := Nat.le_of_ble_eq_true hq1
                  have hl0 : len ≠ 0 := fun hh => by rw [beqN.2 hh] at hl0; cases hl0
                  cases hs with
                  | sliceE _ _ _ off l hl ho => exact absurd rfl hl0
                  | sliceU _ _ _ _ cap l hl hcap hsz' =>
                    apply turn
                    have hle : len + (m + 1) ≤ cap := by
                      obtain ⟨ob, ho, hbr⟩ := r.of_blk hb hl
                      obtain ⟨c, lo, hi, rfl, h2, h3, _⟩ := hbr.cells_inv
                      have : (len + (m + 1)) * (es + 1) ≤ cap * (es + 1) := by omega
                      exact Nat.le_of_mul_le_mul_right this (by omega)
                    rw [← hes] at hq1 hsz' ⊢
                    exact tail_in (P := P) r hle hap r (Fr.refl _ _ _ _) hap2 hone hb hl (by rw [hap3]; rw [Nat.add_mul] at hq1; omega) (.sliceU b o _ _ cap l hl hle hsz')
                | false =>
                  rw [hcnd] at ha
                  simp only [cond_false] at ha
                  replace ha := cond_none' ha; obtain ⟨hfz, ha⟩ := ha
                  subst hfz
                  split at ha
                  · cases ha
                  · rename_i old hold
                    replace ha := cond_none ha; obtain ⟨hq, ha⟩ := ha
                    cases ha
                    simp only [Bool.and_eq_true] at hq
                    obtain ⟨hone1, hq1, hq2⟩ := hq
                    have hq1 := beqN.1 hq1
                    subst hq1
                    have hq2 := Nat.le_of_ble_eq_true hq2
                    have hnew' : ∀ (base : Option Addr) (cap : Nat) (aold : Array Value), cap < len + (m + 1) → (Builtin.firstCells i.size len (.slice base len cap)).run P w1 = .ok aold w1 → VRs φ old aold.toList →
                        Turns P h nx φ w (Builtin.append_ ts ty #[.slice base len cap, cx]) (.sliceU nx 0 (len + (m + 1)) (es + 1)) ((h.del b).set nx (.cells (T.ofList .leaf 0 (old ++ new)) ((len + (m + 1)) * (es + 1)) e' true false)) (nx + 1) := by
                      intro base cap aold hlt o1 o2
                      apply turn
                      have := tail_new (P := P) (old := old) (new := new) (aold := aold) (anew := arr1) (base := base) (sLen := len) (sCap := cap) (n := m + 1) (zs := isIntD d) (cx := cx) (d := b) (h0 := h.del b) r hi hz hzl hib hlt
                        (Nat.le_trans (Nat.mul_le_mul_right _ (nextslicecap_lt hlt)) (by omega))
                        (Nat.le_trans (Nat.mul_le_mul_right _ (show len + (m + 1) ≤ 2 * (len + (m + 1)) + 2000 by omega)) (by omega))
                        (by rw [← hw1]; exact o1) o2 (by rw [getN_len _ _ _ hold, hes]) (by rw [← hw1]; exact hap1) hap12 hap3 (.inl rfl)
                      rw [← hes]
                      exact this
                    cases hs with
                    | sliceE _ _ _ off l hl ho =>
                      have hold0 : old = [] := List.eq_nil_of_length_eq_zero (by rw [getN_len _ _ _ hold]; simp)
                      subst hold0
                      exact hnew' _ _ #[] (by omega) (by simp [Builtin.firstCells, loadCells, loadCellsFrom]) VRs.nil
                    | sliceU _ _ _ _ cap l hl hcap hsz' =>
                      rcases Nat.lt_or_ge cap (len + (m + 1)) with hlt | hge
                      · obtain ⟨aold, o1, o2⟩ := getN_sound (P := P) r1 hb hl hold
                        exact hnew' _ _ aold hlt (by rw [hes]; exact o1) o2
                      · -- there is room
                        apply turn
                        have hmul : (len + (m + 1)) * (es + 1) ≤ cap * (es + 1) := Nat.mul_le_mul_right _ hge
                        obtain ⟨r2, f2⟩ := r.retrack hb hl (o := o) (n' := (len + (m + 1)) * (es + 1)) (cs' := T.ofList .leaf 0 old) (by omega) (fun k v hv => by
                          rw [ofList_get] at hv
                          have hk : k < old.length := by
                            rcases Nat.lt_or_ge k old.length with hh | hh
                            · exact hh
                            · rw [List.getElem?_eq_none hh] at hv; cases hv
                          have hol := getN_len _ _ _ hold
                          refine ⟨?_, getN_get _ _ _ hold k v hv⟩
                          rw [Nat.add_mul]; omega)
                        have hg : ((h.del b).set nx (.cells (T.ofList .leaf 0 old) ((len + (m + 1)) * (es + 1)) e' true false)).get nx = some (.cells (T.ofList .leaf 0 old) ((len + (m + 1)) * (es + 1)) e' true false) := T.get_set_self _ _ _
                        have hup : (φ.upd nx ⟨l.blk, l.dlt + o, l.sz⟩) nx = some ⟨l.blk, l.dlt + o, l.sz⟩ := Ren.upd_self _ _ _
                        obtain ⟨cv, w', φ', t1, t2, t3, t4⟩ := tail_in (P := P) (elem := e') (i := i) (b := nx) (l := ⟨l.blk, l.dlt + o, l.sz⟩) (o := 0) (sLen := len) (sCap := cap) (n := m + 1) (zs := isIntD d) (cx := cx) r hge hap r2 f2 hap2 hone hg hup
                          (by rw [hap3, ← hes, Nat.add_mul len (m + 1)]; omega) (v := .sliceU nx 0 (len + (m + 1)) (es + 1)) (.sliceU nx 0 _ _ cap ⟨l.blk, l.dlt + o, l.sz⟩ hup hge (by simpa using hsz'))
                        rw [T.set_set] at t3 t4
                        have hsame : ∀ (φ : Ren) (l : Loc) (o : Obj), BR φ (.cells (setL (T.ofList .leaf 0 old) (0 + len * i.size) new) ((len + (m + 1)) * (es + 1)) e' true false) l o →
                            BR φ (.cells (T.ofList .leaf 0 (old ++ new)) ((len + (m + 1)) * (es + 1)) e' true false) l o := by
                          intro φ l o hbr
                          refine BR.same_get (fun k v hv => ?_) hbr
                          rw [ofList_get] at hv
                          have hol := getN_len _ _ _ hold
                          rw [get_setL, Nat.zero_add, hes, ← hol]
                          by_cases hk : k < old.length
                          · rw [List.getElem?_append_left hk] at hv
                            rw [if_neg (by omega), ofList_get]; exact hv
                          · have hk2 : k < (old ++ new).length := by
                              rcases Nat.lt_or_ge k (old ++ new).length with hh | hh
                              · exact hh
                              · rw [List.getElem?_eq_none hh] at hv; cases hv
                            rw [List.length_append] at hk2
                            rw [List.getElem?_append_right (by omega)] at hv
                            rw [if_pos ⟨by omega, by omega⟩]; exact hv
                        exact ⟨cv, w', φ', t1, t2, t3.same hsame, t4.same⟩
              · cases ha
            · cases ha
    · cases ha
  · cases ha

end Go.Abs

namespace Go.Abs

variable {P : Program} {h : T AB} {nx : Nat} {φ : Ren} {w : World} {G : Nat} {tm : T AV}

/-- Bytes that a string shares. -/
theorem Rel.freeze (r : Rel h nx φ w) {b : Nat} {cs : T AV} {n : Nat} {e : TypeId} {opn fz : Bool} (hb : h.get b = some (.cells cs n e opn fz)) {l : Loc} (hl : φ b = some l) (off k : Nat) :
    Rel (h.set b (.cells cs n e opn true)) nx φ (w.freeze ⟨l.blk, off, none⟩ k) ∧ Fr h nx φ w (h.set b (.cells cs n e opn true)) nx φ (w.freeze ⟨l.blk, off, none⟩ k) := by
  obtain ⟨ob, ho, hbr⟩ := r.of_blk hb hl
  obtain ⟨c, lo, hi, rfl, h2, h3, h4, h5, h6⟩ := hbr.cells_inv
  have hne : ∀ j, j ≠ l.blk → (w.freeze ⟨l.blk, off, none⟩ k).heap[j]? = w.heap[j]? := by
    intro j hj
    unfold World.freeze
    split
    · rfl
    · simp only [Array.getElem?_modify]; rw [if_neg (by omega)]
  have hself : ∃ lo' hi', (w.freeze ⟨l.blk, off, none⟩ k).heap[l.blk]? = some (.cells c e (lo', hi')) := by
    unfold World.freeze
    split
    · exact ⟨lo, hi, ho⟩
    · simp only [Array.getElem?_modify, if_true, ho, Option.map_some]
      split <;> exact ⟨_, _, rfl⟩
  obtain ⟨lo', hi', hself⟩ := hself
  have hsz : (w.freeze ⟨l.blk, off, none⟩ k).heap.size = w.heap.size := by
    unfold World.freeze; split <;> simp
  have hbr' : BR φ (.cells cs n e opn true) l (.cells c e (lo', hi')) := ⟨c, lo', hi', rfl, h2, h3, h4, h5, fun hh => by cases hh⟩
  refine ⟨r.turn hb hl hbr' hself hne, Fr.turn hb hl hne hsz ?_ ?_ ?_⟩
  all_goals (unfold World.freeze; split <;> rfl)

theorem copyTail {es xl dl : Nat} (r : Rel h nx φ w) {x : AV} {cx : Value} {elem dT ty : TypeId} {ts : Array TypeId} {base : Option Addr} {cap : Nat} (ht0 : ts[0]? = some dT) (hu : P.underlying dT = some (.slice elem))
    (hes : tsize P elem = some es) (hxl : lenOfA x = some xl) {new : List AV} (hc : cellsOfA h es (Nat.min xl dl) x = some new) (hx : VR φ x cx) {w' : World} {h' : T AB}
    (hst : ∀ arr : Array Value, VRs φ new arr.toList → (match base with | some a => storeCells a arr.toList | none => pure () : Sem Unit).run P w = .ok () w') (r' : Rel h' nx φ w') (f' : Fr h nx φ w h' nx φ w') :
    Turns P h nx φ w (Builtin.copy_ ts ty #[.slice base dl cap, cx]) (.int .i64 (.ofNat (Nat.min xl dl))) h' nx := by
  obtain ⟨arr, a1, a2⟩ := firstCells_sound (P := P) r hxl (Nat.min_le_left _ _) hc hx
  refine ⟨.int .i64 (.ofNat (Nat.min xl dl)), w', φ, ?_, .int _ _, r', f'⟩
  have := hst arr a2
  cases base with
  | none =>
    simp only [Sem.run_pure, Result.ok.injEq, true_and] at this
    subst this
    simp only [Builtin.copy_, ht0, List.getElem?_toArray, List.getElem?_cons_zero, List.getElem?_cons_succ, Sem.run_bind, run_underlying _ _ hu, Result.andThen_ok, lenOf_sound hxl hx, run_sizeOf _ _ hes, a1, Sem.run_pure]
    rfl
  | some a =>
    simp only [Builtin.copy_, ht0, List.getElem?_toArray, List.getElem?_cons_zero, List.getElem?_cons_succ, Sem.run_bind, run_underlying _ _ hu, Result.andThen_ok, lenOf_sound hxl hx, run_sizeOf _ _ hes, a1]
    simp only at this
    rw [this]
    rfl

theorem copy_sound (r : Rel h nx φ w) {dT ty : TypeId} {ts : Array TypeId} {d x v : AV} {cd cx : Value} {h' : T AB} (ha : copyA P h dT d x = some (v, h')) (ht0 : ts[0]? = some dT) (hd : VR φ d cd) (hx : VR φ x cx) :
    Turns P h nx φ w (Builtin.copy_ ts ty #[cd, cx]) v h' nx := by
  unfold copyA at ha
  split at ha
  · rename_i e hu
    split at ha
    · rename_i es dl xl hes hdl hxl
      split at ha
      · rename_i new hnew
        split at ha
        · cases ha; cases hd
          simp only [lenOfA] at hdl; cases hdl
          have := copyTail (P := P) (ty := ty) (base := none) (cap := 0) (dl := 0) r ht0 hu hes hxl hnew hx (w' := w) (h' := h) (fun arr _ => rfl) r (Fr.refl _ _ _ _)
          simpa using this
        · rename_i b o len cap
          simp only [lenOfA] at hdl; cases hdl
          split at ha
          · rename_i cs n e' opn hb
            replace ha := cond_none ha; obtain ⟨hcnd, ha⟩ := ha
            cases ha
            rw [Bool.and_eq_true] at hcnd
            cases hd with
            | slice _ _ _ _ l hl =>
              obtain ⟨arr, a1, a2⟩ := firstCells_sound (P := P) r hxl (Nat.min_le_left _ _) hnew hx
              obtain ⟨w', s1, s2, s3⟩ := Rel.storeL' (P := P) r a2 hcnd.1 hb hl (o := o) (Nat.le_of_ble_eq_true hcnd.2)
              refine ⟨_, w', φ, ?_, .int _ _, s2, s3⟩
              simp only [Builtin.copy_, ht0, List.getElem?_toArray, List.getElem?_cons_zero, List.getElem?_cons_succ, Sem.run_bind, run_underlying _ _ hu, Result.andThen_ok, lenOf_sound hxl hx, run_sizeOf _ _ hes, a1]
              rw [s1]; rfl
          · cases ha
        · rename_i b o len es'
          simp only [lenOfA] at hdl; cases hdl
          split at ha
          · rename_i cs n e' opn hb
            replace ha := cond_none ha; obtain ⟨hcnd, ha⟩ := ha
            cases ha
            rw [Bool.and_eq_true] at hcnd
            cases hd with
            | sliceU _ _ _ _ cap l hl _ _ =>
              obtain ⟨arr, a1, a2⟩ := firstCells_sound (P := P) r hxl (Nat.min_le_left _ _) hnew hx
              obtain ⟨w', s1, s2, s3⟩ := Rel.storeL' (P := P) r a2 hcnd.1 hb hl (o := o) (Nat.le_of_ble_eq_true hcnd.2)
              refine ⟨_, w', φ, ?_, .int _ _, s2, s3⟩
              simp only [Builtin.copy_, ht0, List.getElem?_toArray, List.getElem?_cons_zero, List.getElem?_cons_succ, Sem.run_bind, run_underlying _ _ hu, Result.andThen_ok, lenOf_sound hxl hx, run_sizeOf _ _ hes, a1]
              rw [s1]; rfl
          · cases ha
        · cases ha
      · cases ha
    · cases ha
  · cases ha

/-- A row of zeros is written. -/
theorem clear_row (r : Rel h nx φ w) {t ty : TypeId} {ts : Array TypeId} (ht0 : ts[0]? = some t) {e : TypeId} (hu : P.underlying t = some (.slice e)) {z : AV} (hz : tzero P e = some z) {es : Nat} (hzl : z.cells.length = es)
    (hone : isOne z.cells = true) {b : Nat} {cs : T AV} {m : Nat} {e' : TypeId} {opn : Bool} (hb : h.get b = some (.cells cs m e' opn false)) {l : Loc} (hl : φ b = some l) {o n cap : Nat} (hle : o + n * es ≤ m) :
    Turns P h nx φ w (Builtin.clear_ ts ty #[.slice (some ⟨l.blk, l.dlt + o, none⟩) n cap]) (.tuple []) (h.set b (.cells (setL cs o (repA n z.cells)) m e' opn false)) nx := by
  obtain ⟨cz, z1, z2, _⟩ := zero_sound (w := w) (φ := φ) hz
  have hcs := cells_sound' z2
  have hrep := rep_VRs hcs n
  have hones : isOne (repA n z.cells) = true := by
    clear hrep hle
    induction n with
    | zero => rfl
    | succ n ih => simp only [repA, isOne_append, hone, ih, Bool.and_self]
  obtain ⟨w', s1, s2, s3⟩ := Rel.storeL' (P := P) r hrep hones hb hl (o := o) (by rw [repA_len, hzl]; exact hle)
  refine ⟨_, w', φ, ?_, VRs.nil.tuple, s2, s3⟩
  cases n with
  | zero =>
    have e0 : ((Array.range (0 * cz.cells.size)).map (cz.cells[· % cz.cells.size]!)).toList = [] := by simp
    rw [e0] at s1
    simp only [storeCells, Sem.run_pure, Result.ok.injEq, true_and] at s1
    subst s1
    simp only [Builtin.clear_, ht0, List.getElem?_toArray, List.getElem?_cons_zero, Sem.run_bind, run_underlying _ _ hu, Result.andThen_ok, Sem.run_pure]
  | succ n =>
    simp only [Builtin.clear_, ht0, List.getElem?_toArray, List.getElem?_cons_zero, Sem.run_bind, run_underlying _ _ hu, Result.andThen_ok, z1, zeroCells_eq]
    rw [s1]; rfl


/-- The match on the arguments, taken. -/
theorem usMatch {motive : Array Value → Sort _} (p : Option Addr) (l : Value) (h1 : (p : Option Addr) → (len_ : Value) → motive #[Value.pointer p, len_]) (h2 : (x : Array Value) → motive x) :
    Builtin.unsafeString_.match_3 motive #[.pointer p, l] h1 h2 = h1 p l := rfl

/-- unsafe.String. -/
theorem unsafeString_sound (r : Rel h nx φ w) {b n : Nat} {cs : T AV} {m : Nat} {e : TypeId} {opn fz : Bool} (hb : h.get b = some (.cells cs m e opn fz)) {l : Loc} (hl : φ b = some l) {o : Nat} {vs : List AV}
    (hg : getN cs o (n + 1) = some vs) (he : tsize P e = some 1) {c : Nat} (hc : encA vs = some c) (hn : n + 1 ≤ 4611686018427387904) (hom : o + (n + 1) ≤ m) {pt ty : TypeId} {ts : Array TypeId} (ht0 : ts[0]? = some pt)
    (hu : P.underlying pt = some (.pointer e)) {k : IntKind} :
    Turns P h nx φ w (Builtin.unsafeString_ ts ty #[.pointer (some ⟨l.blk, l.dlt + o, none⟩), .int k (.ofNat (n + 1))]) (.str (n + 1) c) (h.set b (.cells cs m e opn true)) nx := by
  obtain ⟨hs1, hs2, _⟩ := r.shape hb hl
  obtain ⟨bs, b1, b2, b3⟩ := encA_spec (φ := φ) vs c hc
  obtain ⟨f1, f2⟩ := r.freeze hb hl (l.dlt + o) (n + 1)
  have hce : P.cellsOf e = 1 := cellsOf_tsize he
  have hvl := getN_len _ _ _ hg
  have hlies : liesAt P P.depth e (l.sz / P.cellsOf e) (l.dlt + o) e (n + 1) = true := by
    rw [hce, Nat.div_one]
    have hd : P.depth = (2 * (P.types.size + Made.depth) + 1) + 1 := rfl
    rw [hd]
    simp only [liesAt, Bool.or_eq_true]
    left
    rw [hd]
    have hq : l.dlt + o + (n + 1) ≤ l.sz := by omega
    simp [rowAt, hce, sameLayout, Nat.mod_one, hq]
  have hcell : ∀ j x, bs[j]? = some x → w.cell? ((⟨l.blk, l.dlt + o, none⟩ : Addr).add j) = some (.int .u8 x.toNat) := by
    intro j x hx
    rw [Addr.add_none]
    have hj : j < vs.length := by
      rcases Nat.lt_or_ge j bs.length with hh | hh
      · omega
      · rw [List.getElem?_eq_none hh] at hx; cases hx
    obtain ⟨cv, c1, c2⟩ := r.cell hb hl (getN_get _ _ _ hg j vs[j] (by simp [hj]))
    -- the cell is a byte
    obtain ⟨arr, a1, a2⟩ := getN_sound (P := P) r hb hl hg
    have h3 := b3 _ a2
    have hx2 : arr.toList[j]? = some (.int .u8 x.toNat) := by rw [h3]; simp [hx]
    have hvr := a2.2 j vs[j] _ (by simp [hj]) hx2
    have hv : vs[j] = .int .u8 x.toNat := by
      generalize vs[j] = v at hvr
      cases hvr; rfl
    rw [hv] at c2
    obtain rfl := c2.int_inv
    rw [← Nat.add_assoc] at c1
    exact c1
  have hlb := Go.Lib.run_loadBytes (P := P) w bs ⟨l.blk, l.dlt + o, none⟩ .empty hcell
  rw [b2, hvl] at hlb
  refine ⟨.string ⟨ByteArray.empty.data ++ bs.toArray⟩, w.freeze ⟨l.blk, l.dlt + o, none⟩ (n + 1), φ, ?_, ?_, f1, f2⟩
  · have hneg : ¬ (Int.ofNat (n + 1) < 0) := by simp; omega
    have hz : ¬ (Int.ofNat (n + 1) = 0) := by simp; omega
    have hmx : ¬ (Int.ofNat (n + 1) > IntKind.i64.max) := by
      have e : IntKind.i64.max = ((9223372036854775807 : Nat) : Int) := by decide
      rw [e]
      have e2 : (Int.ofNat (n + 1)) = ((n + 1 : Nat) : Int) := rfl
      rw [e2]; omega
    have ht : (Int.ofNat (n + 1)).toNat = n + 1 := rfl
    delta Builtin.unsafeString_
    rw [usMatch]
    simp only [asInt, asIntOf, Sem.run_bind, Sem.run_pure, Result.andThen_ok, ht0, if_neg hneg, if_neg hmx, if_neg hz, elemOf, run_underlying _ _ hu, variablesAt, run_program, run_shape, hs1, ht, hlies, if_true, hlb, run_freeze]
  · refine .str _ _ _ ?_ ?_
    · simp [b2, hvl]
    · simp [b1]

end Go.Abs

namespace Go.Abs

variable {P : Program} {h : T AB} {nx : Nat} {φ : Ren} {w : World} {G : Nat} {tm : T AV}

/-- What an operation that turns memory comes to, as the machine has it. -/
def ETurns (P : Program) (h : T AB) (nx : Nat) (φ : Ren) (w : World) (s : Sem Next) (v : AV) (h' : T AB) (nx' : Nat) : Prop :=
  ∃ cv w' φ', (s.run P w = .ok (.value cv) w' ∨ (s.run P w = .ok .skip w' ∧ cv = undef)) ∧ VR φ' v cv ∧ Rel h' nx' φ' w' ∧ Fr h nx φ w h' nx' φ' w'

theorem VR.undef {φ : Ren} : VR φ (.tuple []) undef := VRs.nil.tuple

theorem ETurns.skip {s : Sem Unit} {h' : T AB} (hs : ∃ w', s.run P w = .ok () w' ∧ Rel h' nx φ w' ∧ Fr h nx φ w h' nx φ w') : ETurns P h nx φ w (do s; pure .skip) (.tuple []) h' nx := by
  obtain ⟨w', s1, s2, s3⟩ := hs
  refine ⟨undef, w', φ, .inr ⟨?_, rfl⟩, VR.undef, s2, s3⟩
  simp only [Sem.run_bind, s1, Result.andThen_ok, Sem.run_pure]

theorem Turns.next {s : Sem Value} {v : AV} {h' : T AB} {nx' : Nat} (hs : Turns P h nx φ w s v h' nx') : ETurns P h nx φ w (do pure (.value (← s))) v h' nx' := by
  obtain ⟨cv, w', φ', s1, s2, s3, s4⟩ := hs
  exact ⟨cv, w', φ', .inl (by simp only [Sem.run_bind, s1, Result.andThen_ok, Sem.run_pure]), s2, s3, s4⟩

theorem ETurns.of_run {s s' : Sem Next} {v : AV} {h' : T AB} {nx' : Nat} (he : s.run P w = s'.run P w) (hs : ETurns P h nx φ w s' v h' nx') : ETurns P h nx φ w s v h' nx' := by
  obtain ⟨cv, w', φ', s1, s2⟩ := hs
  exact ⟨cv, w', φ', by rw [he]; exact s1, s2⟩

theorem VRs.two {v1 v2 : AV} {a : List Value} (hr : VRs φ [v1, v2] a) : ∃ c1 c2, a = [c1, c2] ∧ VR φ v1 c1 ∧ VR φ v2 c2 := by
  match a, hr with
  | [c1, c2], hr => exact ⟨c1, c2, rfl, hr.head, hr.tail.head⟩
  | [], hr => have := hr.1; simp at this
  | [_], hr => have := hr.1; simp at this
  | _ :: _ :: _ :: _, hr => have := hr.1; simp at this
theorem VRs.onlyOne {v1 : AV} {a : List Value} (hr : VRs φ [v1] a) : ∃ c1, a = [c1] ∧ VR φ v1 c1 := by
  match a, hr with
  | [c1], hr => exact ⟨c1, rfl, hr.head⟩
  | [], hr => have := hr.1; simp at this
  | _ :: _ :: _, hr => have := hr.1; simp at this

theorem unsafeString_zero {ts : Array TypeId} {ty pt : TypeId} {k : IntKind} (p : Option Addr) (ht0 : ts[0]? = some pt) : (Builtin.unsafeString_ ts ty #[.pointer p, .int k (.ofNat 0)]).run P w = .ok (.string .empty) w := by
  have hmx : ¬ (Int.ofNat 0 > IntKind.i64.max) := by decide
  have hneg : ¬ (Int.ofNat 0 < 0) := by decide
  have h0 : Int.ofNat 0 = 0 := rfl
  delta Builtin.unsafeString_
  rw [usMatch]
  cases p with
  | none => simp only [asInt, asIntOf, Sem.run_bind, Sem.run_pure, Result.andThen_ok, ht0, if_neg hneg, if_neg hmx, if_pos h0]
  | some a => simp only [asInt, asIntOf, Sem.run_bind, Sem.run_pure, Result.andThen_ok, ht0, if_neg hneg, if_neg hmx, if_pos h0]

theorem VR.int_zero {k : IntKind} {c : Value} (hr : VR φ (.int k (.ofNat 0)) c) : c = .int k (.ofNat 0) := hr.int_inv

theorem eop_sound (r : Rel h nx φ w) {o : Oper} {ρ : Operand → Value} (hO : OR φ G tm ρ o.op.operands) {v : AV} {h' : T AB} {nx' : Nat} (he : eop P G h nx tm o = some (v, h', nx')) :
    ETurns P h nx φ w (execOp ρ o) v h' nx' := by
  unfold eop at he
  split at he
  · rename_i t a x ho
    rw [ho] at hO
    split at he
    · rename_i va vx ha hx
      split at he
      · rename_i h1 hs
        cases he
        have := store_sound (P := P) r hs (hO a (by simp [Op.operands]) _ ha) (hO x (by simp [Op.operands]) _ hx)
        simp only [execOp, ho]
        exact ETurns.skip this
      · cases he
    · cases he
  · rename_i t m k x ho
    rw [ho] at hO
    split at he
    · rename_i vm vk vx hm hk hx
      split at he
      · rename_i h1 hs
        cases he
        have := mapUpdate_sound (P := P) r hs (hO m (by simp [Op.operands]) _ hm) (hO k (by simp [Op.operands]) _ hk) (hO x (by simp [Op.operands]) _ hx)
        simp only [execOp, ho]
        exact ETurns.skip this
      · cases he
    · cases he
  · rename_i t m k x ho
    rw [ho] at hO
    split at he
    · rename_i vm vk vx hm hk hx
      split at he
      · rename_i h1 hs
        cases he
        have := mapUpdate_sound (P := P) r hs (hO m (by simp [Op.operands]) _ hm) (hO k (by simp [Op.operands]) _ hk) (hO x (by simp [Op.operands]) _ hx)
        simp only [execOp, ho]
        exact ETurns.skip this
      · cases he
    · cases he
  · rename_i t m k ho
    rw [ho] at hO
    split at he
    · rename_i vm vk hm hk
      split at he
      · rename_i v1 h1 hs
        cases he
        obtain ⟨cv, w', s1, s2, s3, s4⟩ := mapEntry_sound (P := P) r hs (hO m (by simp [Op.operands]) _ hm) (hO k (by simp [Op.operands]) _ hk)
        simp only [execOp, ho]
        exact Turns.next ⟨cv, w', φ, s1, s2, s3, s4⟩
      · cases he
    · cases he
  · rename_i t m s x ho
    rw [ho] at hO
    split at he
    · rename_i vm vk vx hm hk hx
      split at he
      · rename_i h1 hs
        cases he
        have := entryStore_sound (P := P) (t := t) r hs (hO m (by simp [Op.operands]) _ hm) (hO s (by simp [Op.operands]) _ hk) (hO x (by simp [Op.operands]) _ hx)
        simp only [execOp, ho]
        exact ETurns.skip this
      · cases he
    · cases he
  · rename_i s d x ho
    rw [ho] at hO
    split at he
    · rename_i vx e0 e hx hs hd
      split at he
      · rename_i b o1 n c he1
        replace he := cond_none he; obtain ⟨hsd, he⟩ := he
        have hsd := beqN.1 hsd
        subst hsd
        have hee : e0 = e := by rw [hs] at hd; cases hd; rfl
        subst hee
        split at he
        · rename_i cs m e' opn fz hb
          cases he
          have hvr := hO x (by simp [Op.operands]) _ hx
          cases hvr' : ρ x with
          | slice base n1 c1 =>
            rw [hvr'] at hvr
            cases hvr with
            | slice _ _ _ _ l hl =>
              obtain ⟨hs1, _⟩ := r.shape hb hl
              obtain ⟨f1, f2⟩ := r.freeze hb hl l.sz 1
              simp only [execOp, ho, hvr']
              refine Turns.next ⟨_, _, φ, ?_, .slice b o1 n c l hl, f1, f2⟩
              simp only [convert, Sem.run_bind, run_underlying _ _ hs, Result.andThen_ok, run_underlying _ _ he1, beq_self_eq_true, markStringish, run_shape, hs1, run_freeze, Sem.run_pure]
          | _ => rw [hvr'] at hvr; cases hvr
        · cases he
      · cases he
    · cases he
  · rename_i c ho
    rw [ho] at hO
    split at he
    · rename_i bi hcal
      obtain ⟨callee, args, argTypes⟩ := c
      simp only at hcal
      subst hcal
      split at he
      · rename_i avs hav
        have hA := opnds_sound (φ := φ) (ρ := ρ) args.toList avs hav (fun x hx v hv => hO x (by simp [Op.operands, Call.operands]; simpa using hx) v hv)
        have hrun : ∀ (s : Sem Next), s = builtin bi argTypes o.type (args.map fun | .const _ => true | _ => false) (args.map ρ) → (execOp ρ o).run P w = s.run P w := by
          intro s hs
          rw [hs]
          simp only [execOp, ho]
          exact resolve_builtin ρ bi args argTypes o.type
        split at he
        · rename_i s1 x1 sT xT rest hts
          obtain ⟨c1, c2, ec, r1, r2⟩ := hA.two
          have ea : args.map ρ = #[c1, c2] := by apply Array.toList_inj.1; simpa using ec
          refine ETurns.of_run (hrun _ rfl) ?_
          rw [ea]
          have ht0 : argTypes[0]? = some sT := by rw [← Array.getElem?_toList, hts]; rfl
          have ht1 : argTypes[1]? = some xT := by rw [← Array.getElem?_toList, hts]; rfl
          exact Turns.next (append_sound r he ht0 ht1 r1 r2)
        · rename_i s1 x1 sT rest hts
          obtain ⟨c1, c2, ec, r1, r2⟩ := hA.two
          have ea : args.map ρ = #[c1, c2] := by apply Array.toList_inj.1; simpa using ec
          refine ETurns.of_run (hrun _ rfl) ?_
          rw [ea]
          have ht0 : argTypes[0]? = some sT := by rw [← Array.getElem?_toList, hts]; rfl
          split at he
          · rename_i v1 h1 hc
            cases he
            exact Turns.next (copy_sound r hc ht0 r1 r2)
          · cases he
        · rename_i x1 t rest hts
          obtain ⟨c1, ec, r1⟩ := hA.onlyOne
          have ea : args.map ρ = #[c1] := by apply Array.toList_inj.1; simpa using ec
          refine ETurns.of_run (hrun _ rfl) ?_
          rw [ea]
          have ht0 : argTypes[0]? = some t := by rw [← Array.getElem?_toList, hts]; rfl
          split at he
          · rename_i e b o1 n cap hu
            split at he
            · rename_i z es cs m e' opn hz hes hb
              replace he := cond_none he; obtain ⟨hc, he⟩ := he
              cases he
              simp only [Bool.and_eq_true] at hc
              cases r1 with
              | slice _ _ _ _ l hl => exact Turns.next (clear_row r ht0 hu hz (beqN.1 hc.1.1) hc.1.2 hb hl (Nat.le_of_ble_eq_true hc.2))
            · cases he
          · rename_i e b o1 n es' hu
            split at he
            · cases he
              have hcl : ∀ a cap, (Builtin.clear_ argTypes o.type #[.slice (some a) 0 cap]).run P w = .ok (.tuple #[]) w := by
                intro a cap
                simp only [Builtin.clear_, ht0, List.getElem?_toArray, List.getElem?_cons_zero, Sem.run_bind, run_underlying _ _ hu, Result.andThen_ok, Sem.run_pure]
              cases r1 with
              | sliceU _ _ _ _ cap l hl _ _ => exact Turns.next ⟨_, w, φ, hcl _ _, VRs.nil.tuple, r, Fr.refl _ _ _ _⟩
              | sliceE _ _ _ off l hl _ => exact Turns.next ⟨_, w, φ, hcl _ _, VRs.nil.tuple, r, Fr.refl _ _ _ _⟩
            · rename_i n1
              split at he
              · rename_i z es cs m e' opn hz hes hb
                replace he := cond_none he; obtain ⟨hc, he⟩ := he
                cases he
                simp only [Bool.and_eq_true] at hc
                cases r1 with
                | sliceU _ _ _ _ cap l hl _ _ => exact Turns.next (clear_row r ht0 hu hz (beqN.1 hc.1.1) hc.1.2 hb hl (Nat.le_of_ble_eq_true hc.2))
              · cases he
          · cases he
        · rename_i x1 l1 pt rest hts
          obtain ⟨c1, c2, ec, r1, r2⟩ := hA.two
          have ea : args.map ρ = #[c1, c2] := by apply Array.toList_inj.1; simpa using ec
          refine ETurns.of_run (hrun _ rfl) ?_
          rw [ea]
          have ht0 : argTypes[0]? = some pt := by rw [← Array.getElem?_toList, hts]; rfl
          split at he
          · cases he
            obtain rfl := r2.int_inv
            cases r1
            exact Turns.next ⟨_, w, φ, unsafeString_zero _ ht0, .str _ _ _ rfl rfl, r, Fr.refl _ _ _ _⟩
          · cases he
            obtain rfl := r2.int_inv
            cases r1
            exact Turns.next ⟨_, w, φ, unsafeString_zero _ ht0, .str _ _ _ rfl rfl, r, Fr.refl _ _ _ _⟩
          · rename_i b o1 k n
            split at he
            · rename_i cs m e opn fz hb
              split at he
              · rename_i u vs hu hg hes
                split at he
                · rename_i cc hcc
                  replace he := cond_none he; obtain ⟨hc, he⟩ := he
                  cases he
                  simp only [Bool.and_eq_true] at hc
                  have hue := beqN.1 hc.1
                  subst hue
                  obtain rfl := r2.int_inv
                  cases r1 with
                  | ptr _ _ l hl => exact Turns.next (unsafeString_sound r hb hl hg hes hcc (Nat.le_of_ble_eq_true hc.2.1) (Nat.le_of_ble_eq_true hc.2.2) ht0 hu)
                · cases he
              · cases he
            · cases he
          · cases he
        · cases he
      · cases he
    · cases he
  · cases he

end Go.Abs
