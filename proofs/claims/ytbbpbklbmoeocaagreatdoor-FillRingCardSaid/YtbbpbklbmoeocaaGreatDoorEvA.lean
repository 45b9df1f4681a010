/-
  AN EVALUATOR OVER ABSTRACT VALUES: its values, its operations, its control. (The conditions stand in the row and the card that are given.) Written by an AI agent for this claim.
-/
import GoSem.Step
import Derived.Laws.Sem
import Derived.OrdersIn
set_option linter.unusedVariables false
set_option linter.unusedSimpArgs false
namespace Go.Abs

/-! ### a tree of eight branches, its places by their digits -/

inductive D where
  | d0 | d1 | d2 | d3 | d4 | d5 | d6 | d7

inductive DL where
  | nil
  | cons (d : D) (l : DL)

def D.toNat : D → Nat
  | .d0 => 0 | .d1 => 1 | .d2 => 2 | .d3 => 3 | .d4 => 4 | .d5 => 5 | .d6 => 6 | .d7 => 7

def D.of (n : Nat) : D :=
  cond (Nat.ble n 3) (cond (Nat.ble n 1) (cond (Nat.ble n 0) .d0 .d1) (cond (Nat.ble n 2) .d2 .d3))
    (cond (Nat.ble n 5) (cond (Nat.ble n 4) .d4 .d5) (cond (Nat.ble n 6) .d6 .d7))

def dgF : Nat → Nat → DL
  | 0, _ => .nil
  | f + 1, k => match k with
    | 0 => .nil
    | k + 1 => .cons (D.of (Nat.mod k 8)) (dgF f (Nat.div k 8))

/-- The digits of a place. -/
def dg (k : Nat) : DL := dgF (Nat.succ (Nat.log2 (Nat.succ k))) k

def DL.val : DL → Nat
  | .nil => 0
  | .cons d l => d.toNat + 8 * l.val + 1

theorem D.toNat_of (n : Nat) (h : n < 8) : (D.of n).toNat = n := by
  match n, h with
  | 0, _ => rfl | 1, _ => rfl | 2, _ => rfl | 3, _ => rfl | 4, _ => rfl | 5, _ => rfl | 6, _ => rfl | 7, _ => rfl
  | n + 8, h => omega

theorem val_dgF : ∀ (f k : Nat), k + 1 ≤ 2 ^ f → (dgF f k).val = k := by
  intro f
  induction f with
  | zero => intro k h; simp at h; subst h; rfl
  | succ f ih =>
    intro k h
    cases k with
    | zero => rfl
    | succ k =>
      have hm : k % 8 < 8 := Nat.mod_lt _ (by omega)
      have hp : 2 ^ (f + 1) = 2 * 2 ^ f := by rw [Nat.pow_succ]; omega
      have := ih (k / 8) (by omega)
      show (D.of (k % 8)).toNat + 8 * (dgF f (k / 8)).val + 1 = k + 1
      rw [D.toNat_of _ hm, this]
      omega

theorem val_dg (k : Nat) : (dg k).val = k := by
  refine val_dgF _ k ?_
  have h := @Nat.lt_log2_self (Nat.succ k)
  show k + 1 ≤ 2 ^ (Nat.log2 (Nat.succ k) + 1)
  exact Nat.le_of_lt h

theorem dg_inj {j k : Nat} (h : dg j = dg k) : j = k := by
  have := congrArg DL.val h
  rwa [val_dg, val_dg] at this

/-- The far places: a tree without end. -/
inductive TT (α : Type) where
  | leaf
  | node (v : Option α) (c0 c1 c2 c3 c4 c5 c6 c7 : TT α)

namespace TT
variable {α : Type}

def getL : DL → TT α → Option α
  | .nil, t => match t with
    | .leaf => none
    | .node v _ _ _ _ _ _ _ _ => v
  | .cons d l, t => match t with
    | .leaf => none
    | .node _ c0 c1 c2 c3 c4 c5 c6 c7 => match d with
      | .d0 => getL l c0 | .d1 => getL l c1 | .d2 => getL l c2 | .d3 => getL l c3 | .d4 => getL l c4 | .d5 => getL l c5 | .d6 => getL l c6 | .d7 => getL l c7

def putL : DL → Option α → TT α → TT α
  | .nil, u, t => match t with
    | .leaf => .node u .leaf .leaf .leaf .leaf .leaf .leaf .leaf .leaf
    | .node _ c0 c1 c2 c3 c4 c5 c6 c7 => .node u c0 c1 c2 c3 c4 c5 c6 c7
  | .cons d l, u, t => match t with
    | .leaf => match d with
      | .d0 => .node none (putL l u .leaf) .leaf .leaf .leaf .leaf .leaf .leaf .leaf
      | .d1 => .node none .leaf (putL l u .leaf) .leaf .leaf .leaf .leaf .leaf .leaf
      | .d2 => .node none .leaf .leaf (putL l u .leaf) .leaf .leaf .leaf .leaf .leaf
      | .d3 => .node none .leaf .leaf .leaf (putL l u .leaf) .leaf .leaf .leaf .leaf
      | .d4 => .node none .leaf .leaf .leaf .leaf (putL l u .leaf) .leaf .leaf .leaf
      | .d5 => .node none .leaf .leaf .leaf .leaf .leaf (putL l u .leaf) .leaf .leaf
      | .d6 => .node none .leaf .leaf .leaf .leaf .leaf .leaf (putL l u .leaf) .leaf
      | .d7 => .node none .leaf .leaf .leaf .leaf .leaf .leaf .leaf (putL l u .leaf)
    | .node v c0 c1 c2 c3 c4 c5 c6 c7 => match d with
      | .d0 => .node v (putL l u c0) c1 c2 c3 c4 c5 c6 c7
      | .d1 => .node v c0 (putL l u c1) c2 c3 c4 c5 c6 c7
      | .d2 => .node v c0 c1 (putL l u c2) c3 c4 c5 c6 c7
      | .d3 => .node v c0 c1 c2 (putL l u c3) c4 c5 c6 c7
      | .d4 => .node v c0 c1 c2 c3 (putL l u c4) c5 c6 c7
      | .d5 => .node v c0 c1 c2 c3 c4 (putL l u c5) c6 c7
      | .d6 => .node v c0 c1 c2 c3 c4 c5 (putL l u c6) c7
      | .d7 => .node v c0 c1 c2 c3 c4 c5 c6 (putL l u c7)

theorem getL_leaf (d : DL) : getL d (leaf : TT α) = none := by cases d <;> rfl

theorem getL_putL_self : ∀ (d : DL) (u : Option α) (t : TT α), getL d (putL d u t) = u := by
  intro d
  induction d with
  | nil => intro u t; cases t <;> rfl
  | cons x d ih => intro u t; cases t <;> cases x <;> simp [putL, getL, ih]

theorem getL_putL_ne : ∀ (d : DL) (u : Option α) (t : TT α) (e : DL), e ≠ d → getL e (putL d u t) = getL e t := by
  intro d
  induction d with
  | nil =>
    intro u t e h
    cases e with
    | nil => exact absurd rfl h
    | cons x l => cases t <;> cases x <;> simp [putL, getL, getL_leaf]
  | cons x d ih =>
    intro u t e h
    cases e with
    | nil => cases t <;> cases x <;> simp [putL, getL]
    | cons y e =>
      have h' : x = y → e ≠ d := fun e1 e2 => h (by rw [e1, e2])
      cases t with
      | leaf => cases x <;> cases y <;> first | simp [putL, getL, getL_leaf]; done | (simp only [putL, getL]; rw [ih _ _ _ (h' rfl), getL_leaf])
      | node => cases x <;> cases y <;> first | simp [putL, getL]; done | (simp only [putL, getL]; exact ih _ _ _ (h' rfl))

theorem putL_putL : ∀ (d : DL) (u v : Option α) (t : TT α), putL d u (putL d v t) = putL d u t := by
  intro d
  induction d with
  | nil => intro u v t; cases t <;> rfl
  | cons x d ih => intro u v t; cases t <;> cases x <;> simp only [putL, ih]

end TT

/-! ### the near places: a row of eight, rows of rows -/

structure N8 (α : Type) where
  c0 : α
  c1 : α
  c2 : α
  c3 : α
  c4 : α
  c5 : α
  c6 : α
  c7 : α

namespace N8
variable {α : Type}
def all (a : α) : N8 α := ⟨a, a, a, a, a, a, a, a⟩

def sel (d : D) : N8 α → α := D.casesOn (motive := fun _ => N8 α → α) d N8.c0 N8.c1 N8.c2 N8.c3 N8.c4 N8.c5 N8.c6 N8.c7

def m0 (f : α → α) (t : N8 α) : N8 α := N8.casesOn (motive := fun _ => N8 α) t fun c0 c1 c2 c3 c4 c5 c6 c7 => N8.mk (f c0) c1 c2 c3 c4 c5 c6 c7
def m1 (f : α → α) (t : N8 α) : N8 α := N8.casesOn (motive := fun _ => N8 α) t fun c0 c1 c2 c3 c4 c5 c6 c7 => N8.mk c0 (f c1) c2 c3 c4 c5 c6 c7
def m2 (f : α → α) (t : N8 α) : N8 α := N8.casesOn (motive := fun _ => N8 α) t fun c0 c1 c2 c3 c4 c5 c6 c7 => N8.mk c0 c1 (f c2) c3 c4 c5 c6 c7
def m3 (f : α → α) (t : N8 α) : N8 α := N8.casesOn (motive := fun _ => N8 α) t fun c0 c1 c2 c3 c4 c5 c6 c7 => N8.mk c0 c1 c2 (f c3) c4 c5 c6 c7
def m4 (f : α → α) (t : N8 α) : N8 α := N8.casesOn (motive := fun _ => N8 α) t fun c0 c1 c2 c3 c4 c5 c6 c7 => N8.mk c0 c1 c2 c3 (f c4) c5 c6 c7
def m5 (f : α → α) (t : N8 α) : N8 α := N8.casesOn (motive := fun _ => N8 α) t fun c0 c1 c2 c3 c4 c5 c6 c7 => N8.mk c0 c1 c2 c3 c4 (f c5) c6 c7
def m6 (f : α → α) (t : N8 α) : N8 α := N8.casesOn (motive := fun _ => N8 α) t fun c0 c1 c2 c3 c4 c5 c6 c7 => N8.mk c0 c1 c2 c3 c4 c5 (f c6) c7
def m7 (f : α → α) (t : N8 α) : N8 α := N8.casesOn (motive := fun _ => N8 α) t fun c0 c1 c2 c3 c4 c5 c6 c7 => N8.mk c0 c1 c2 c3 c4 c5 c6 (f c7)
def md (d : D) (f : α → α) (t : N8 α) : N8 α := D.casesOn (motive := fun _ => (α → α) → N8 α → N8 α) d m0 m1 m2 m3 m4 m5 m6 m7 f t

theorem sel_all (d : D) (a : α) : sel d (all a) = a := by cases d <;> rfl
theorem sel_md_self (d : D) (f : α → α) (t : N8 α) : sel d (md d f t) = f (sel d t) := by cases d <;> rfl
theorem sel_md_ne {d e : D} (h : e ≠ d) (f : α → α) (t : N8 α) : sel e (md d f t) = sel e t := by cases d <;> cases e <;> first | rfl | exact absurd rfl h
theorem md_md (d : D) (f g : α → α) (t : N8 α) : md d f (md d g t) = md d (fun x => f (g x)) t := by cases d <;> rfl
theorem md_congr (d : D) {f g : α → α} (t : N8 α) (h : ∀ x, f x = g x) : md d f t = md d g t := by rw [show f = g from funext h]
end N8

/-- Where a place lies. -/
inductive Path where
  | near (a b : D)
  | mid (a b c : D)
  | big (a b c d e : D)
  | far (l : DL)

def dig (n : Nat) : D := D.of (Nat.mod n 8)

def pathOf (k : Nat) : Path :=
  cond (Nat.ble k 63) (.near (dig (Nat.div k 8)) (dig k))
    (cond (Nat.ble k 511) (.mid (dig (Nat.div k 64)) (dig (Nat.div k 8)) (dig k)) (cond (Nat.ble k 32767) (.big (dig (Nat.div k 4096)) (dig (Nat.div k 512)) (dig (Nat.div k 64)) (dig (Nat.div k 8)) (dig k)) (.far (dg k))))

def Path.val : Path → Nat
  | .near a b => a.toNat * 8 + b.toNat
  | .mid a b c => a.toNat * 64 + b.toNat * 8 + c.toNat
  | .big a b c d e => a.toNat * 4096 + b.toNat * 512 + c.toNat * 64 + d.toNat * 8 + e.toNat
  | .far l => l.val

theorem toNat_dig (n : Nat) : (dig n).toNat = n % 8 := D.toNat_of _ (Nat.mod_lt _ (by omega))

theorem val_pathOf (k : Nat) : (pathOf k).val = k := by
  unfold pathOf
  cases h1 : Nat.ble k 63 with
  | true =>
    have := Nat.le_of_ble_eq_true h1
    show (dig (k / 8)).toNat * 8 + (dig k).toNat = k
    rw [toNat_dig, toNat_dig]; omega
  | false =>
    cases h3 : Nat.ble k 511 with
    | true =>
      have := Nat.le_of_ble_eq_true h3
      show (dig (k / 64)).toNat * 64 + (dig (k / 8)).toNat * 8 + (dig k).toNat = k
      simp only [toNat_dig]; omega
    | false =>
    cases h2 : Nat.ble k 32767 with
    | true =>
      have := Nat.le_of_ble_eq_true h2
      show (dig (k / 4096)).toNat * 4096 + (dig (k / 512)).toNat * 512 + (dig (k / 64)).toNat * 64 + (dig (k / 8)).toNat * 8 + (dig k).toNat = k
      simp only [toNat_dig]; omega
    | false => exact val_dg k

theorem pathOf_inj {j k : Nat} (h : pathOf j = pathOf k) : j = k := by
  have := congrArg Path.val h
  rwa [val_pathOf, val_pathOf] at this

structure T (α : Type) where
  near : N8 (N8 (Option α))
  mid : N8 (N8 (N8 (Option α)))
  big : N8 (N8 (N8 (N8 (N8 (Option α)))))
  far : TT α

namespace T
variable {α : Type}

def leaf : T α := ⟨.all (.all none), .all (.all (.all none)), .all (.all (.all (.all (.all none)))), .leaf⟩

def getNear (a b : D) (t : T α) : Option α := N8.sel b (N8.sel a t.near)
def getMid (a b c : D) (t : T α) : Option α := N8.sel c (N8.sel b (N8.sel a t.mid))
def getBig (a b c d e : D) (t : T α) : Option α := N8.sel e (N8.sel d (N8.sel c (N8.sel b (N8.sel a t.big))))
def getFar (l : DL) (t : T α) : Option α := TT.getL l t.far
def pget (p : Path) (t : T α) : Option α := Path.casesOn (motive := fun _ => T α → Option α) p getNear getMid getBig getFar t

def putNear (a b : D) (v : Option α) (t : T α) : T α := T.casesOn (motive := fun _ => T α) t fun n m g f => T.mk (N8.md a (N8.md b fun _ => v) n) m g f
def putMid (a b c : D) (v : Option α) (t : T α) : T α := T.casesOn (motive := fun _ => T α) t fun n m g f => T.mk n (N8.md a (N8.md b (N8.md c fun _ => v)) m) g f
def putBig (a b c d e : D) (v : Option α) (t : T α) : T α := T.casesOn (motive := fun _ => T α) t fun n m g f => T.mk n m (N8.md a (N8.md b (N8.md c (N8.md d (N8.md e fun _ => v)))) g) f
def putFar (l : DL) (v : Option α) (t : T α) : T α := T.casesOn (motive := fun _ => T α) t fun n m g f => T.mk n m g (TT.putL l v f)
def pput (p : Path) (v : Option α) (t : T α) : T α := Path.casesOn (motive := fun _ => Option α → T α → T α) p putNear putMid putBig putFar v t

theorem pget_leaf (p : Path) : pget p (leaf : T α) = none := by
  cases p with
  | near a b => simp [pget, getNear, leaf, N8.sel_all]
  | mid a b c => simp [pget, getMid, leaf, N8.sel_all]
  | big a b c d e => simp [pget, getBig, leaf, N8.sel_all]
  | far l => simp [pget, getFar, leaf, TT.getL_leaf]

theorem pget_pput_self (p : Path) (v : Option α) (t : T α) : pget p (pput p v t) = v := by
  cases p with
  | near a b => simp [pget, pput, getNear, putNear, N8.sel_md_self]
  | mid a b c => simp [pget, pput, getMid, putMid, N8.sel_md_self]
  | big a b c d e => simp [pget, pput, getBig, putBig, N8.sel_md_self]
  | far l => simp [pget, pput, getFar, putFar, TT.getL_putL_self]

theorem pget_pput_ne (p q : Path) (v : Option α) (t : T α) (h : q ≠ p) : pget q (pput p v t) = pget q t := by
  cases p with
  | near a b =>
    cases q with
    | near c d =>
      simp only [pget, pput, getNear, putNear]
      by_cases e : c = a
      · subst e
        have : d ≠ b := fun e => h (by rw [e])
        rw [N8.sel_md_self, N8.sel_md_ne this]
      · rw [N8.sel_md_ne e]
    | _ => rfl
  | mid a b c =>
    cases q with
    | mid a' b' c' =>
      simp only [pget, pput, getMid, putMid]
      by_cases h1 : a' = a
      · subst h1
        rw [N8.sel_md_self]
        by_cases h2 : b' = b
        · subst h2
          have : c' ≠ c := fun e => h (by rw [e])
          rw [N8.sel_md_self, N8.sel_md_ne this]
        · rw [N8.sel_md_ne h2]
      · rw [N8.sel_md_ne h1]
    | _ => rfl
  | big a b c d e =>
    cases q with
    | big a' b' c' d' e' =>
      simp only [pget, pput, getBig, putBig]
      by_cases h1 : a' = a
      · subst h1
        rw [N8.sel_md_self]
        by_cases h2 : b' = b
        · subst h2
          rw [N8.sel_md_self]
          by_cases h3 : c' = c
          · subst h3
            rw [N8.sel_md_self]
            by_cases h4 : d' = d
            · subst h4
              have : e' ≠ e := fun e => h (by rw [e])
              rw [N8.sel_md_self, N8.sel_md_ne this]
            · rw [N8.sel_md_ne h4]
          · rw [N8.sel_md_ne h3]
        · rw [N8.sel_md_ne h2]
      · rw [N8.sel_md_ne h1]
    | _ => rfl
  | far l =>
    cases q with
    | far m => exact TT.getL_putL_ne _ _ _ _ (fun e => h (by rw [e]))
    | _ => rfl

theorem pput_pput (p : Path) (u v : Option α) (t : T α) : pput p u (pput p v t) = pput p u t := by
  cases p with
  | near a b => simp only [pput, putNear, N8.md_md]
  | mid a b c => simp only [pput, putMid, N8.md_md]
  | big a b c d e => simp only [pput, putBig, N8.md_md]
  | far l => simp only [pput, putFar, TT.putL_putL]

def get (t : T α) (k : Nat) : Option α := pget (pathOf k) t
def put (t : T α) (k : Nat) (v : Option α) : T α := pput (pathOf k) v t
def set (t : T α) (k : Nat) (v : α) : T α := pput (pathOf k) (some v) t
def del (t : T α) (k : Nat) : T α := pput (pathOf k) none t

theorem get_leaf (k : Nat) : (leaf : T α).get k = none := pget_leaf _

theorem get_put (t : T α) (k : Nat) (v : Option α) (j : Nat) : (t.put k v).get j = if j = k then v else t.get j := by
  unfold get put
  by_cases h : j = k
  · subst h; rw [pget_pput_self]; simp
  · rw [if_neg h, pget_pput_ne _ _ _ _ (fun e => h (pathOf_inj e))]

theorem get_set (t : T α) (k : Nat) (v : α) (j : Nat) : (t.set k v).get j = if j = k then some v else t.get j := get_put t k _ j
theorem get_del (t : T α) (k : Nat) (j : Nat) : (t.del k).get j = if j = k then none else t.get j := get_put t k _ j
theorem get_set_self (t : T α) (k : Nat) (v : α) : (t.set k v).get k = some v := by rw [get_set]; simp
theorem get_set_ne (t : T α) {k j : Nat} (v : α) (h : j ≠ k) : (t.set k v).get j = t.get j := by rw [get_set]; simp [h]

theorem set_set (t : T α) (k : Nat) (v u : α) : (t.set k v).set k u = t.set k u := pput_pput _ _ _ _

/-- The list laid from place i on. -/
def ofList : T α → Nat → List α → T α
  | t, _, [] => t
  | t, i, v :: l => ofList (t.set i v) (i + 1) l

theorem get_ofList (l : List α) : ∀ (t : T α) (i j : Nat), (ofList t i l).get j = if i ≤ j ∧ j < i + l.length then l[j - i]? else t.get j := by
  induction l with
  | nil => intro t i j; simp [ofList]; intro h1 h2; omega
  | cons v l ih =>
    intro t i j
    rw [ofList, ih, get_set]
    by_cases h : j = i
    · subst h
      simp
      omega
    · by_cases h1 : i ≤ j
      · by_cases h2 : j < i + (l.length + 1)
        · rw [if_pos ⟨by omega, by omega⟩, if_pos ⟨h1, by simpa using h2⟩]
          have : j - i = (j - (i + 1)) + 1 := by omega
          rw [this]; simp
        · rw [if_neg (by omega), if_neg h, if_neg (by simp only [List.length_cons]; omega)]
      · rw [if_neg (by omega), if_neg h, if_neg (by omega)]

end T

end Go.Abs

namespace Go.Abs

/-! ### abstract values -/

inductive AV where
  | bool (b : Bool)
  | int (k : IntKind) (n : Int)
  | str (n c : Nat)
  | ptr (b o : Nat)
  | nilPtr
  | slice (b o len cap : Nat)
  | sliceU (b o len es : Nat)
  | nilSlice
  | map (r : Nat)
  | nilMap
  | func (f : FuncId) (first captured : List AV)
  | yield (l : Nat)
  | nilFunc
  | iface (t : TypeId) (v : AV)
  | nilIface
  | agg (cs : List AV)
  | tuple (vs : List AV)
  deriving Inhabited

/-- A string's bytes as a number, the first byte the least. -/
def enc : List UInt8 → Nat
  | [] => 0
  | b :: l => b.toNat + 256 * enc l

structure Loc where
  blk : Nat
  dlt : Nat
  sz : Nat

abbrev Ren := Nat → Option Loc

inductive VR (φ : Ren) : AV → Value → Prop where
  | bool (b : Bool) : VR φ (.bool b) (.bool b)
  | int (k : IntKind) (n : Int) : VR φ (.int k n) (.int k n)
  | str (n c : Nat) (s : ByteArray) (hn : s.data.toList.length = n) (hc : enc s.data.toList = c) : VR φ (.str n c) (.string s)
  | ptr (b o : Nat) (l : Loc) (h : φ b = some l) : VR φ (.ptr b o) (.pointer (some ⟨l.blk, l.dlt + o, none⟩))
  | nilPtr : VR φ .nilPtr (.pointer none)
  | slice (b o len cap : Nat) (l : Loc) (h : φ b = some l) : VR φ (.slice b o len cap) (.slice (some ⟨l.blk, l.dlt + o, none⟩) len cap)
  | sliceU (b o len es cap : Nat) (l : Loc) (h : φ b = some l) (hc : len ≤ cap) (hs : l.dlt + o + cap * es = l.sz) :
      VR φ (.sliceU b o len es) (.slice (some ⟨l.blk, l.dlt + o, none⟩) len cap)
  | sliceE (b o es off : Nat) (l : Loc) (h : φ b = some l) (ho : l.dlt + o = l.sz) : VR φ (.sliceU b o 0 es) (.slice (some ⟨l.blk, off, none⟩) 0 0)
  | nilSlice : VR φ .nilSlice (.slice none 0 0)
  | map (r : Nat) (l : Loc) (h : φ r = some l) : VR φ (.map r) (.map (some l.blk))
  | nilMap : VR φ .nilMap (.map none)
  | func (f : FuncId) (fs cs : List AV) (fa ca : Array Value) (h1 : fs.length = fa.size) (h2 : cs.length = ca.size)
      (h3 : ∀ (i : Nat) (v : AV) (c : Value), fs[i]? = some v → fa[i]? = some c → VR φ v c) (h4 : ∀ (i : Nat) (v : AV) (c : Value), cs[i]? = some v → ca[i]? = some c → VR φ v c) :
      VR φ (.func f fs cs) (.func (.func f) fa ca)
  | yield (b : Nat) (l : Loc) (h : φ b = some l) : VR φ (.yield b) (.func (.yield l.blk) #[] #[])
  | nilFunc : VR φ .nilFunc .nilFunc
  | iface (t : TypeId) (v : AV) (c : Value) (h : VR φ v c) : VR φ (.iface t v) (.iface t c)
  | nilIface : VR φ .nilIface .nilIface
  | agg (l : List AV) (a : Array Value) (hl : l.length = a.size) (h : ∀ (i : Nat) (v : AV) (c : Value), l[i]? = some v → a[i]? = some c → VR φ v c) : VR φ (.agg l) (.agg a)
  | tuple (l : List AV) (a : Array Value) (hl : l.length = a.size) (h : ∀ (i : Nat) (v : AV) (c : Value), l[i]? = some v → a[i]? = some c → VR φ v c) : VR φ (.tuple l) (.tuple a)

/-- Lists of values. -/
def VRs (φ : Ren) (l : List AV) (a : List Value) : Prop := l.length = a.length ∧ ∀ (i : Nat) (v : AV) (c : Value), l[i]? = some v → a[i]? = some c → VR φ v c

def Ren.le (φ ψ : Ren) : Prop := ∀ i l, φ i = some l → ψ i = some l
theorem Ren.le_refl (φ : Ren) : φ.le φ := fun _ _ h => h
theorem Ren.le_trans {φ ψ χ : Ren} (h : φ.le ψ) (k : ψ.le χ) : φ.le χ := fun i l e => k i l (h i l e)

theorem VR.mono {φ ψ : Ren} (hle : φ.le ψ) {v : AV} {c : Value} (h : VR φ v c) : VR ψ v c := by
  induction h with
  | bool b => exact .bool b
  | int k n => exact .int k n
  | str n c s hn hc => exact .str n c s hn hc
  | ptr b o l h => exact .ptr b o l (hle _ _ h)
  | nilPtr => exact .nilPtr
  | slice b o len cap l h => exact .slice b o len cap l (hle _ _ h)
  | sliceU b o len es cap l h hc hs => exact .sliceU b o len es cap l (hle _ _ h) hc hs
  | sliceE b o es off l h ho => exact .sliceE b o es off l (hle _ _ h) ho
  | nilSlice => exact .nilSlice
  | map r l h => exact .map r l (hle _ _ h)
  | nilMap => exact .nilMap
  | func f fs cs fa ca h1 h2 _ _ ih3 ih4 => exact .func f fs cs fa ca h1 h2 ih3 ih4
  | yield b l h => exact .yield b l (hle _ _ h)
  | nilFunc => exact .nilFunc
  | iface t v c _ ih => exact .iface t v c ih
  | nilIface => exact .nilIface
  | agg l a hl _ ih => exact .agg l a hl ih
  | tuple l a hl _ ih => exact .tuple l a hl ih

theorem VRs.mono {φ ψ : Ren} (hle : φ.le ψ) {l : List AV} {a : List Value} (h : VRs φ l a) : VRs ψ l a := ⟨h.1, fun i v c hv hc => (h.2 i v c hv hc).mono hle⟩

theorem VRs.nil {φ : Ren} : VRs φ [] [] := ⟨rfl, fun i v c h => by simp at h⟩
theorem VRs.cons {φ : Ren} {v : AV} {c : Value} {l : List AV} {a : List Value} (h : VR φ v c) (hs : VRs φ l a) : VRs φ (v :: l) (c :: a) :=
  ⟨by simp [hs.1], fun i v' c' hv hc => by
    cases i with
    | zero => simp at hv hc; subst hv; subst hc; exact h
    | succ i => simp at hv hc; exact hs.2 i v' c' hv hc⟩
theorem VRs.head {φ : Ren} {v : AV} {c : Value} {l : List AV} {a : List Value} (h : VRs φ (v :: l) (c :: a)) : VR φ v c := h.2 0 v c (by simp) (by simp)
theorem VRs.tail {φ : Ren} {v : AV} {c : Value} {l : List AV} {a : List Value} (h : VRs φ (v :: l) (c :: a)) : VRs φ l a :=
  ⟨by have := h.1; simpa using this, fun i v' c' hv hc => h.2 (i + 1) v' c' (by simpa using hv) (by simpa using hc)⟩
theorem VRs.append {φ : Ren} {l l' : List AV} {a a' : List Value} (h : VRs φ l a) (h' : VRs φ l' a') : VRs φ (l ++ l') (a ++ a') :=
  ⟨by simp [h.1, h'.1], fun i v c hv hc => by
    by_cases hi : i < l.length
    · rw [List.getElem?_append_left hi] at hv
      rw [List.getElem?_append_left (by have := h.1; omega)] at hc
      exact h.2 i v c hv hc
    · rw [List.getElem?_append_right (by omega)] at hv
      rw [List.getElem?_append_right (by have := h.1; omega)] at hc
      rw [← h.1] at hc
      exact h'.2 _ v c hv hc⟩
theorem VRs.get {φ : Ren} {l : List AV} {a : List Value} (h : VRs φ l a) {i : Nat} {v : AV} (hv : l[i]? = some v) : ∃ c, a[i]? = some c ∧ VR φ v c := by
  have hi : i < l.length := by
    rcases Nat.lt_or_ge i l.length with h | h
    · exact h
    · simp [List.getElem?_eq_none h] at hv
  have hi' : i < a.length := by have := h.1; omega
  exact ⟨a[i], by simp [List.getElem?_eq_getElem hi'], h.2 i v _ hv (by simp [List.getElem?_eq_getElem hi'])⟩
theorem VRs.drop {φ : Ren} {l : List AV} {a : List Value} (h : VRs φ l a) (n : Nat) : VRs φ (l.drop n) (a.drop n) :=
  ⟨by simp [h.1], fun i v c hv hc => h.2 (n + i) v c (by simpa using hv) (by simpa using hc)⟩
theorem VRs.take {φ : Ren} {l : List AV} {a : List Value} (h : VRs φ l a) (n : Nat) : VRs φ (l.take n) (a.take n) :=
  ⟨by simp [h.1], fun i v c hv hc => by
    rw [List.getElem?_take] at hv hc
    split at hv
    · rw [if_pos (by assumption)] at hc
      exact h.2 i v c hv hc
    · simp at hv⟩

/-! ### abstract blocks -/

structure AME where
  key : AV
  val : AV
  born : Nat

structure ALoop where
  state : LoopState
  pending : Option Code
  fn : FuncId
  tm : T AV
  ntm : Nat
  params : Array Tmp
  assign : Code
  body : Code
  defers : Nat

inductive AB where
  | cells (cs : T AV) (n : Nat) (elem : TypeId) (opn fz : Bool)
  | map (es : List AME) (clock : Nat)
  /-- a map whose entries lie in whatever order -/
  | mapS (es : List AME)
  | loop (l : ALoop)
  | deferred

def EntryR (φ : Ren) (e : AME) (c : MapEntry) : Prop := VR φ e.key c.key ∧ VR φ e.val c.val ∧ e.born = c.born

def TR (φ : Ren) (tm : T AV) (n : Nat) (tmps : Array Value) : Prop :=
  tmps.size = n ∧ ∀ (t : Nat) (v : AV), tm.get t = some v → ∃ c, tmps[t]? = some c ∧ VR φ v c

def BR (φ : Ren) : AB → Loc → Obj → Prop
  | .cells cs n elem opn fz, l, o => ∃ (c : Array Value) (lo hi : Nat), o = .cells c elem (lo, hi) ∧ c.size = l.sz ∧ l.dlt + n ≤ l.sz ∧ (opn = false → l.dlt = 0 ∧ l.sz = n) ∧
      (∀ k v, cs.get k = some v → k < n ∧ ∃ cv, c[l.dlt + k]? = some cv ∧ VR φ v cv) ∧ (fz = false → (∀ k, k < l.sz → ¬ (lo ≤ k ∧ k < hi)) ∧ (opn = false → lo = 0 ∧ hi = 0))
  | .map es clock, _, o => ∃ (ces : Array MapEntry), o = .map ces clock ∧ es.length = ces.size ∧ ∀ (i : Nat) (e : AME) (c : MapEntry), es[i]? = some e → ces[i]? = some c → EntryR φ e c
  | .mapS es, _, o => ∃ (ces : Array MapEntry) (clock : Nat) (es' : List AME), o = .map ces clock ∧ es'.Perm es ∧ es'.length = ces.size ∧
      (∀ (i : Nat) (e : AME) (c : MapEntry), es'[i]? = some e → ces[i]? = some c → VR φ e.key c.key ∧ VR φ e.val c.val)
  | .loop al, _, o => ∃ (cl : Loop), o = .loop cl ∧ cl.state = al.state ∧ cl.pending = al.pending ∧ TR φ al.tm al.ntm cl.tmps ∧ cl.params = al.params ∧ cl.assign = al.assign ∧
      cl.body = al.body ∧ ∃ l', φ al.defers = some l' ∧ cl.defers = l'.blk
  | .deferred, _, o => o = .deferred (some [])

structure Rel (h : T AB) (nx : Nat) (φ : Ren) (w : World) : Prop where
  dom : ∀ i, nx ≤ i → φ i = none
  blk : ∀ i b, h.get i = some b → ∃ l o, φ i = some l ∧ w.heap[l.blk]? = some o ∧ BR φ b l o
  inj : ∀ i j bi bj li lj, h.get i = some bi → h.get j = some bj → φ i = some li → φ j = some lj → li.blk = lj.blk → i = j

/-- Block b is one of the tracked ones. -/
def Owns (h : T AB) (φ : Ren) (b : Nat) : Prop := ∃ i bi li, h.get i = some bi ∧ φ i = some li ∧ li.blk = b

structure Fr (h : T AB) (nx : Nat) (φ : Ren) (w : World) (h' : T AB) (nx' : Nat) (φ' : Ren) (w' : World) : Prop where
  ren : ∀ i, i < nx → φ' i = φ i
  nx : nx ≤ nx'
  size : w.heap.size ≤ w'.heap.size
  old : ∀ b, b < w.heap.size → ¬ Owns h φ b → w'.heap[b]? = w.heap[b]?
  own : ∀ b, Owns h' φ' b → b < w.heap.size → Owns h φ b
  os : w'.os = w.os
  tape : w'.tape = w.tape
  output : w'.output = w.output

theorem Fr.refl (h : T AB) (nx : Nat) (φ : Ren) (w : World) : Fr h nx φ w h nx φ w :=
  ⟨fun _ _ => rfl, Nat.le_refl _, Nat.le_refl _, fun _ _ _ => rfl, fun _ h _ => h, rfl, rfl, rfl⟩

theorem Fr.trans {h h1 h2 : T AB} {nx nx1 nx2 : Nat} {φ φ1 φ2 : Ren} {w w1 w2 : World} (a : Fr h nx φ w h1 nx1 φ1 w1) (b : Fr h1 nx1 φ1 w1 h2 nx2 φ2 w2) :
    Fr h nx φ w h2 nx2 φ2 w2 where
  ren := fun i hi => (b.ren i (Nat.lt_of_lt_of_le hi a.nx)).trans (a.ren i hi)
  nx := Nat.le_trans a.nx b.nx
  size := Nat.le_trans a.size b.size
  old := fun k hk ho => (b.old k (Nat.lt_of_lt_of_le hk a.size) (fun h1 => ho (a.own k h1 hk))).trans (a.old k hk ho)
  own := fun k hk hlt => a.own k (b.own k hk (Nat.lt_of_lt_of_le hlt a.size)) hlt
  os := b.os.trans a.os
  tape := b.tape.trans a.tape
  output := b.output.trans a.output

theorem Fr.le {h h' : T AB} {nx nx' : Nat} {φ φ' : Ren} {w w' : World} (a : Fr h nx φ w h' nx' φ' w') (hd : ∀ i, nx ≤ i → φ i = none) : φ.le φ' := by
  intro i l hi
  have : i < nx := by
    rcases Nat.lt_or_ge i nx with h | h
    · exact h
    · rw [hd i h] at hi; cases hi
  rw [a.ren i this, hi]

theorem Rel.le {h h' : T AB} {nx nx' : Nat} {φ φ' : Ren} {w w' : World} (r : Rel h nx φ w) (a : Fr h nx φ w h' nx' φ' w') : φ.le φ' := a.le r.dom

end Go.Abs

namespace Go.Abs

def Ren.upd (φ : Ren) (i : Nat) (l : Loc) : Ren := fun j => if j = i then some l else φ j
theorem Ren.upd_self (φ : Ren) (i : Nat) (l : Loc) : φ.upd i l i = some l := by simp [Ren.upd]
theorem Ren.upd_ne (φ : Ren) {i j : Nat} (l : Loc) (h : j ≠ i) : φ.upd i l j = φ j := by simp [Ren.upd, h]
theorem Ren.le_upd {φ : Ren} {i : Nat} (l : Loc) (h : φ i = none) : φ.le (φ.upd i l) := by
  intro j m hj
  rw [Ren.upd_ne]
  · exact hj
  · intro e; subst e; rw [h] at hj; cases hj

theorem TR.mono {φ ψ : Ren} (hle : φ.le ψ) {tm : T AV} {n : Nat} {tmps : Array Value} (h : TR φ tm n tmps) : TR ψ tm n tmps :=
  ⟨h.1, fun t v hv => let ⟨c, hc, hr⟩ := h.2 t v hv; ⟨c, hc, hr.mono hle⟩⟩

theorem EntryR.mono {φ ψ : Ren} (hle : φ.le ψ) {e : AME} {c : MapEntry} (h : EntryR φ e c) : EntryR ψ e c := ⟨h.1.mono hle, h.2.1.mono hle, h.2.2⟩

theorem BR.mono {φ ψ : Ren} (hle : φ.le ψ) {b : AB} {l : Loc} {o : Obj} (h : BR φ b l o) : BR ψ b l o := by
  cases b with
  | cells cs n elem opn fz =>
    obtain ⟨c, lo, hi, h1, h2, h3, h4, h5, h6⟩ := h
    exact ⟨c, lo, hi, h1, h2, h3, h4, fun k v hv => let ⟨a, cv, b, d⟩ := h5 k v hv; ⟨a, cv, b, d.mono hle⟩, h6⟩
  | map es clock =>
    obtain ⟨ces, h1, h2, h3⟩ := h
    exact ⟨ces, h1, h2, fun i e c a b => (h3 i e c a b).mono hle⟩
  | mapS es =>
    obtain ⟨ces, cl, es', h1, h2, h3, h4⟩ := h
    exact ⟨ces, cl, es', h1, h2, h3, fun i e c a b => ⟨(h4 i e c a b).1.mono hle, (h4 i e c a b).2.mono hle⟩⟩
  | loop al =>
    obtain ⟨cl, h1, h2, h3, h5, h6, h7, h8, l', h9, h10⟩ := h
    exact ⟨cl, h1, h2, h3, h5.mono hle, h6, h7, h8, l', hle _ _ h9, h10⟩
  | deferred => exact h

section
variable {h : T AB} {nx : Nat} {φ : Ren} {w : World}

theorem Rel.lt (r : Rel h nx φ w) {i : Nat} {b : AB} (hb : h.get i = some b) {l : Loc} (hl : φ i = some l) : l.blk < w.heap.size := by
  obtain ⟨l', o, hl', ho, _⟩ := r.blk i b hb
  rw [hl] at hl'; cases hl'
  rcases Nat.lt_or_ge l.blk w.heap.size with hh | hh
  · exact hh
  · simp [Array.getElem?_eq_none hh] at ho

theorem Rel.owns_lt (r : Rel h nx φ w) {b : Nat} (ho : Owns h φ b) : b < w.heap.size := by
  obtain ⟨i, bi, li, h1, h2, rfl⟩ := ho
  exact r.lt h1 h2

theorem Rel.of_blk (r : Rel h nx φ w) {i : Nat} {b : AB} (hb : h.get i = some b) {l : Loc} (hl : φ i = some l) : ∃ o, w.heap[l.blk]? = some o ∧ BR φ b l o := by
  obtain ⟨l', o, hl', ho, hr⟩ := r.blk i b hb
  rw [hl] at hl'; cases hl'
  exact ⟨o, ho, hr⟩

/-- A new block. -/
theorem Rel.new (r : Rel h nx φ w) {i : Nat} (hi : φ i = none) {nx' : Nat} (hn : nx ≤ nx') (hin : i < nx') {o : Obj} {b : AB} {sz : Nat}
    (hb : BR (φ.upd i ⟨w.heap.size, 0, sz⟩) b ⟨w.heap.size, 0, sz⟩ o) {w' : World} (hw : w'.heap = w.heap.push o) :
    Rel (h.set i b) nx' (φ.upd i ⟨w.heap.size, 0, sz⟩) w' where
  dom := fun j hj => by rw [Ren.upd_ne _ _ (by omega)]; exact r.dom j (by omega)
  blk := fun j bj hj => by
    rw [T.get_set] at hj
    by_cases e : j = i
    · subst e
      simp at hj; subst hj
      exact ⟨_, o, Ren.upd_self _ _ _, by rw [hw]; simp, hb⟩
    · rw [if_neg e] at hj
      obtain ⟨l, o', h1, h2, h3⟩ := r.blk j bj hj
      refine ⟨l, o', by rw [Ren.upd_ne _ _ e]; exact h1, ?_, h3.mono (Ren.le_upd _ hi)⟩
      rw [hw, Array.getElem?_push, if_neg (by have := r.lt hj h1; omega)]; exact h2
  inj := fun j k bj bk lj lk hj hk ej ek e => by
    rw [T.get_set] at hj hk
    by_cases e1 : j = i
    · by_cases e2 : k = i
      · omega
      · subst e1
        rw [if_neg e2] at hk
        rw [Ren.upd_self] at ej; cases ej
        rw [Ren.upd_ne _ _ e2] at ek
        have := r.lt hk ek
        simp at e; omega
    · rw [if_neg e1] at hj
      rw [Ren.upd_ne _ _ e1] at ej
      by_cases e2 : k = i
      · subst e2
        rw [Ren.upd_self] at ek; cases ek
        have := r.lt hj ej
        simp at e; omega
      · rw [if_neg e2] at hk
        rw [Ren.upd_ne _ _ e2] at ek
        exact r.inj j k bj bk lj lk hj hk ej ek e

theorem Fr.new (r : Rel h nx φ w) {i : Nat} (hi : nx ≤ i) {nx' : Nat} (hn : nx ≤ nx') {o : Obj} {b : AB} {sz : Nat} {w' : World}
    (hw : w'.heap = w.heap.push o) (h1 : w'.os = w.os) (h2 : w'.tape = w.tape) (h3 : w'.output = w.output) :
    Fr h nx φ w (h.set i b) nx' (φ.upd i ⟨w.heap.size, 0, sz⟩) w' where
  ren := fun j hj => Ren.upd_ne _ _ (by omega)
  nx := hn
  size := by rw [hw]; simp
  old := fun k hk _ => by rw [hw, Array.getElem?_push, if_neg (by omega)]
  own := fun k ⟨j, bj, lj, a, c, e⟩ hk => by
    rw [T.get_set] at a
    by_cases e1 : j = i
    · subst e1
      rw [Ren.upd_self] at c; cases c
      simp at e; omega
    · rw [if_neg e1] at a
      rw [Ren.upd_ne _ _ e1] at c
      exact ⟨j, bj, lj, a, c, e⟩
  os := h1
  tape := h2
  output := h3

/-- A tracked block is turned. -/
theorem Rel.turn (r : Rel h nx φ w) {i : Nat} {b0 : AB} (hb : h.get i = some b0) {l : Loc} (hl : φ i = some l) {b : AB} {o : Obj} (hbr : BR φ b l o) {w' : World}
    (hw : w'.heap[l.blk]? = some o) (hs : ∀ k, k ≠ l.blk → w'.heap[k]? = w.heap[k]?) : Rel (h.set i b) nx φ w' where
  dom := r.dom
  blk := fun j bj hj => by
    rw [T.get_set] at hj
    by_cases e : j = i
    · subst e
      simp at hj; subst hj
      exact ⟨l, o, hl, hw, hbr⟩
    · rw [if_neg e] at hj
      obtain ⟨lj, oj, h1, h2, h3⟩ := r.blk j bj hj
      refine ⟨lj, oj, h1, ?_, h3⟩
      rw [hs]
      · exact h2
      · intro e2; exact e (r.inj j i bj b0 lj l hj hb h1 hl e2)
  inj := fun j k bj bk lj lk hj hk ej ek e => by
    rw [T.get_set] at hj hk
    have hj' : ∃ b, h.get j = some b := by
      by_cases e1 : j = i
      · subst e1; exact ⟨_, hb⟩
      · rw [if_neg e1] at hj; exact ⟨_, hj⟩
    have hk' : ∃ b, h.get k = some b := by
      by_cases e1 : k = i
      · subst e1; exact ⟨_, hb⟩
      · rw [if_neg e1] at hk; exact ⟨_, hk⟩
    obtain ⟨_, hj'⟩ := hj'
    obtain ⟨_, hk'⟩ := hk'
    exact r.inj j k _ _ lj lk hj' hk' ej ek e

theorem Fr.turn {i : Nat} {b0 : AB} (hb : h.get i = some b0) {l : Loc} (hl : φ i = some l) {b : AB} {w' : World}
    (hs : ∀ k, k ≠ l.blk → w'.heap[k]? = w.heap[k]?) (hz : w'.heap.size = w.heap.size) (h1 : w'.os = w.os) (h2 : w'.tape = w.tape) (h3 : w'.output = w.output) :
    Fr h nx φ w (h.set i b) nx φ w' where
  ren := fun _ _ => rfl
  nx := Nat.le_refl _
  size := Nat.le_of_eq hz.symm
  old := fun k _ ho => hs k (fun e => ho ⟨i, b0, l, hb, hl, e.symm⟩)
  own := fun k ⟨j, bj, lj, a, c, e⟩ _ => by
    rw [T.get_set] at a
    by_cases e1 : j = i
    · subst e1; exact ⟨j, b0, lj, hb, c, e⟩
    · rw [if_neg e1] at a; exact ⟨j, bj, lj, a, c, e⟩
  os := h1
  tape := h2
  output := h3

/-- A block is no more tracked. -/
theorem Rel.del (r : Rel h nx φ w) (i : Nat) : Rel (h.del i) nx φ w where
  dom := r.dom
  blk := fun j bj hj => by
    rw [T.get_del] at hj
    by_cases e : j = i
    · rw [if_pos e] at hj; cases hj
    · rw [if_neg e] at hj; exact r.blk j bj hj
  inj := fun j k bj bk lj lk hj hk ej ek e => by
    rw [T.get_del] at hj hk
    by_cases e1 : j = i
    · rw [if_pos e1] at hj; cases hj
    · by_cases e2 : k = i
      · rw [if_pos e2] at hk; cases hk
      · rw [if_neg e1] at hj; rw [if_neg e2] at hk
        exact r.inj j k bj bk lj lk hj hk ej ek e

theorem Owns.of_del {i b : Nat} (ho : Owns (h.del i) φ b) : Owns h φ b := by
  obtain ⟨j, bj, lj, a, c, e⟩ := ho
  rw [T.get_del] at a
  by_cases e1 : j = i
  · rw [if_pos e1] at a; cases a
  · rw [if_neg e1] at a; exact ⟨j, bj, lj, a, c, e⟩

theorem Fr.del (i : Nat) : Fr h nx φ w (h.del i) nx φ w :=
  ⟨fun _ _ => rfl, Nat.le_refl _, Nat.le_refl _, fun _ _ _ => rfl, fun _ ho _ => ho.of_del, rfl, rfl, rfl⟩

/-- A world that draws. -/
theorem Rel.drawn (r : Rel h nx φ w) {w' : World} (hw : w'.heap = w.heap) : Rel h nx φ w' :=
  ⟨r.dom, fun i b hb => by rw [hw]; exact r.blk i b hb, r.inj⟩

theorem Fr.drawn {w' : World} (hw : w'.heap = w.heap) (h1 : w'.os = w.os) (h2 : w'.tape = w.tape) (h3 : w'.output = w.output) : Fr h nx φ w h nx φ w' :=
  ⟨fun _ _ => rfl, Nat.le_refl _, by rw [hw]; exact Nat.le_refl _, fun _ _ _ => by rw [hw], fun _ ho _ => ho, h1, h2, h3⟩

/-! ### cells -/

theorem BR.cells_inv {cs : T AV} {n : Nat} {elem : TypeId} {opn fz : Bool} {l : Loc} {o : Obj} (hb : BR φ (.cells cs n elem opn fz) l o) :
    ∃ (c : Array Value) (lo hi : Nat), o = .cells c elem (lo, hi) ∧ c.size = l.sz ∧ l.dlt + n ≤ l.sz ∧ (opn = false → l.dlt = 0 ∧ l.sz = n) ∧
      (∀ k v, cs.get k = some v → k < n ∧ ∃ cv, c[l.dlt + k]? = some cv ∧ VR φ v cv) ∧ (fz = false → (∀ k, k < l.sz → ¬ (lo ≤ k ∧ k < hi)) ∧ (opn = false → lo = 0 ∧ hi = 0)) := hb

theorem Rel.cell (r : Rel h nx φ w) {b : Nat} {cs : T AV} {n : Nat} {elem : TypeId} {opn fz : Bool} (hb : h.get b = some (.cells cs n elem opn fz)) {l : Loc} (hl : φ b = some l)
    {o : Nat} {v : AV} (hv : cs.get o = some v) : ∃ c, w.cell? ⟨l.blk, l.dlt + o, none⟩ = some c ∧ VR φ v c := by
  obtain ⟨ob, ho, hbr⟩ := r.of_blk hb hl
  obtain ⟨c, lo, hi, rfl, h2, h3, h4, h5, h6⟩ := hbr.cells_inv
  obtain ⟨_, cv, hcv, hr⟩ := h5 o v hv
  exact ⟨cv, by simp [World.cell?, ho, hcv], hr⟩

/-- Is it a value of one cell? -/
def AV.one : AV → Bool
  | .agg _ | .tuple _ => false
  | _ => true

theorem VR.one {v : AV} {c : Value} (hr : VR φ v c) (h : v.one = true) : c.oneCell' = true := by
  cases hr <;> simp_all [AV.one, Value.oneCell']

theorem setCell_heap (w : World) (a : Addr) (v : Value) (k : Nat) (hk : k ≠ a.block) : (w.setCell a v).heap[k]? = w.heap[k]? := by
  simp only [World.setCell, Array.getElem?_modify]
  rw [if_neg (by omega)]

theorem setCell_self {w : World} {b o : Nat} {c : Array Value} {elem : TypeId} {fr : Nat × Nat} (v : Value) (hb : w.heap[b]? = some (.cells c elem fr)) :
    (w.setCell ⟨b, o, none⟩ v).heap[b]? = some (.cells (c.setIfInBounds o v) elem fr) := by
  simp [World.setCell, Array.getElem?_modify, hb]

theorem setCell_size (w : World) (a : Addr) (v : Value) : (w.setCell a v).heap.size = w.heap.size := by simp [World.setCell]

theorem Rel.store (r : Rel h nx φ w) {b : Nat} {cs : T AV} {n : Nat} {elem : TypeId} {opn : Bool} (hb : h.get b = some (.cells cs n elem opn false)) {l : Loc} (hl : φ b = some l)
    {o : Nat} (ho : o < n) {v : AV} {c : Value} (hr : VR φ v c) :
    (∃ x, w.cell? ⟨l.blk, l.dlt + o, none⟩ = some x) ∧ w.frozen? ⟨l.blk, l.dlt + o, none⟩ = false ∧
    Rel (h.set b (.cells (cs.set o v) n elem opn false)) nx φ (w.setCell ⟨l.blk, l.dlt + o, none⟩ c) ∧
    Fr h nx φ w (h.set b (.cells (cs.set o v) n elem opn false)) nx φ (w.setCell ⟨l.blk, l.dlt + o, none⟩ c) := by
  obtain ⟨ob, hob, hbr⟩ := r.of_blk hb hl
  obtain ⟨ca, lo, hi, rfl, h2, h3, h4, h5, h6⟩ := hbr.cells_inv
  have hlt : l.dlt + o < ca.size := by omega
  refine ⟨⟨ca[l.dlt + o], by simp [World.cell?, hob, hlt]⟩, ?_, ?_, ?_⟩
  · have := (h6 rfl).1 (l.dlt + o) (by omega)
    simp only [World.frozen?, hob]
    simpa using this
  · refine r.turn hb hl ?_ (setCell_self c hob) (fun k hk => setCell_heap w _ c k hk)
    refine ⟨_, lo, hi, rfl, by simp [h2], h3, h4, ?_, h6⟩
    intro k v' hv'
    rw [T.get_set] at hv'
    by_cases e : k = o
    · subst e
      simp at hv'; subst hv'
      exact ⟨ho, c, by simp [hlt], hr⟩
    · rw [if_neg e] at hv'
      obtain ⟨a1, cv, a2, a3⟩ := h5 k v' hv'
      exact ⟨a1, cv, by rw [Array.getElem?_setIfInBounds_ne (by omega)]; exact a2, a3⟩
  · exact Fr.turn hb hl (fun k hk => setCell_heap w _ c k hk) (setCell_size _ _ _) rfl rfl rfl

end

end Go.Abs

namespace Go.Abs

/-! ### numbers, quickly -/

def eqI : Int → Int → Bool
  | .ofNat a, .ofNat b => Nat.beq a b
  | .negSucc a, .negSucc b => Nat.beq a b
  | _, _ => false
def leI : Int → Int → Bool
  | .ofNat a, .ofNat b => Nat.ble a b
  | .negSucc a, .negSucc b => Nat.ble b a
  | .negSucc _, .ofNat _ => true
  | .ofNat _, .negSucc _ => false
def ltI (a b : Int) : Bool := !leI b a

def maxN : IntKind → Nat
  | .i8 => 127 | .i16 => 32767 | .i32 => 2147483647 | .i64 => 9223372036854775807
  | .u8 => 255 | .u16 => 65535 | .u32 => 4294967295 | .u64 => 18446744073709551615
def wrapA (k : IntKind) (n : Int) : Int :=
  match n with
  | .ofNat m => cond (Nat.ble m (maxN k)) n (k.wrap n)
  | .negSucc m => cond (k.signed && Nat.ble m (maxN k)) n (k.wrap n)

/-- The tail of a list, the index of a place. -/
def getN (cs : T AV) : Nat → Nat → Option (List AV)
  | _, 0 => some []
  | o, n + 1 => match cs.get o with
    | some v => match getN cs (o + 1) n with
      | some l => some (v :: l)
      | none => none
    | none => none

def setL (cs : T AV) : Nat → List AV → T AV
  | _, [] => cs
  | o, v :: l => setL (cs.set o v) (o + 1) l

def AV.cells : AV → List AV
  | .agg cs => cs
  | v => [v]

/-! ### constants -/

mutual
def ofVal : Value → Option AV
  | .bool b => some (.bool b)
  | .int k n => some (.int k n)
  | .string s => some (.str s.data.toList.length (enc s.data.toList))
  | .pointer none => some .nilPtr
  | .slice none 0 0 => some .nilSlice
  | .map none => some .nilMap
  | .nilFunc => some .nilFunc
  | .nilIface => some .nilIface
  | .func (.func f) ⟨[]⟩ ⟨[]⟩ => some (.func f [] [])
  | .iface t v => match ofVal v with
    | some a => some (.iface t a)
    | none => none
  | .agg ⟨l⟩ => match ofVals l with
    | some a => some (.agg a)
    | none => none
  | .tuple ⟨l⟩ => match ofVals l with
    | some a => some (.tuple a)
    | none => none
  | _ => none
def ofVals : List Value → Option (List AV)
  | [] => some []
  | v :: l => match ofVal v with
    | some a => match ofVals l with
      | some b => some (a :: b)
      | none => none
    | none => none
end

def opnd (G : Nat) (tm : T AV) : Operand → Option AV
  | .tmp t => tm.get t
  | .const v => ofVal v
  | .global g => cond (Nat.blt g G) (some (.ptr g 0)) none
  | .func f => some (.func f [] [])

def opnds (G : Nat) (tm : T AV) : List Operand → Option (List AV)
  | [] => some []
  | x :: l => match opnd G tm x with
    | some a => match opnds G tm l with
      | some b => some (a :: b)
      | none => none
    | none => none

/-! ### types -/

def isAggD : TypeDesc → Bool
  | .struct _ | .array _ _ => true
  | _ => false

def tsize (P : Program) (t : TypeId) : Option Nat := (P.info? t).map (·.size)
def tzero (P : Program) (t : TypeId) : Option AV :=
  match P.info? t with
  | some i => match i.zero with
    | some v => ofVal v
    | none => none
  | none => none

/-! ### quiet operations -/

def loadA (P : Program) (h : T AB) (t : TypeId) : AV → Option AV
  | .ptr b o => match h.get b with
    | some (.cells cs _ _ _ _) => match P.underlying t with
      | some d => match isAggD d with
        | true => match tsize P t with
          | some n => match getN cs o n with
            | some l => some (.agg l)
            | none => none
          | none => none
        | false => cs.get o
      | none => none
    | _ => none
  | _ => none

def partA (P : Program) (t : TypeId) (cs : List AV) (off : Nat) : Option AV :=
  match P.underlying t with
  | some d => match isAggD d with
    | true => match tsize P t with
      | some n => some (.agg ((cs.drop off).take n))
      | none => none
    | false => cs[off]?
  | none => none

def intOp (op : BinOp) (k : IntKind) (x y : Int) : Option AV :=
  match op with
  | .add => some (.int k (wrapA k (x + y)))
  | .sub => some (.int k (wrapA k (x - y)))
  | .mul => some (.int k (wrapA k (x * y)))
  | .quo => cond (eqI y 0) none (some (.int k (wrapA k (x.tdiv y))))
  | .rem => cond (eqI y 0) none (some (.int k (x.tmod y)))
  | .and => some (.int k (k.wrap (BitVec.ofInt k.bits x &&& BitVec.ofInt k.bits y).toNat))
  | .or => some (.int k (k.wrap (BitVec.ofInt k.bits x ||| BitVec.ofInt k.bits y).toNat))
  | .xor => some (.int k (k.wrap (BitVec.ofInt k.bits x ^^^ BitVec.ofInt k.bits y).toNat))
  | .andNot => some (.int k (k.wrap (BitVec.ofInt k.bits x &&& ~~~BitVec.ofInt k.bits y).toNat))
  | .eql => some (.bool (eqI x y))
  | .neq => some (.bool (!eqI x y))
  | .lss => some (.bool (ltI x y))
  | .leq => some (.bool (leI x y))
  | .gtr => some (.bool (ltI y x))
  | .geq => some (.bool (leI y x))
  | _ => none

def shiftA (op : BinOp) (k : IntKind) (x y : Int) : Option AV :=
  match y with
  | .negSucc _ => none
  | .ofNat m => match op with
    | .shl => some (.int k (k.wrap (x * 2 ^ (min m k.bits))))
    | .shr => some (.int k (x.fdiv (2 ^ (min m k.bits))))
    | _ => none

def strLt : Nat → Nat → Nat → Nat → Nat → Bool
  | 0, _, _, _, _ => false
  | f + 1, n, c, m, d => match m with
    | 0 => false
    | m + 1 => match n with
      | 0 => true
      | n + 1 => cond (Nat.blt (c % 256) (d % 256)) true (cond (Nat.beq (c % 256) (d % 256)) (strLt f n (c / 256) m (d / 256)) false)

def strOp (op : BinOp) (n c m d : Nat) : Option AV :=
  match op with
  | .eql => some (.bool (Nat.beq n m && Nat.beq c d))
  | .neq => some (.bool (!(Nat.beq n m && Nat.beq c d)))
  | .lss => some (.bool (strLt (n + 1) n c m d))
  | .add => cond (Nat.ble (n + m) 9223372036854775807) (some (.str (n + m) (c + 256 ^ n * d))) none
  | _ => none

/-- Equality on plain data (of a struct: by its fields' types). -/
def eqA (P : Program) (t : TypeId) : Nat → AV → AV → Option Bool
  | 0, _, _ => none
  | f + 1, x, y => match P.underlying t with
    | some .bool => match x, y with
      | .bool a, .bool b => some (cond a b (!b))
      | _, _ => none
    | some (.int _) => match x, y with
      | .int k a, .int k' b => cond (decide (k = k')) (some (eqI a b)) none
      | _, _ => none
    | some .string => match x, y with
      | .str n c, .str m d => some (Nat.beq n m && Nat.beq c d)
      | _, _ => none
    | some (.pointer e) => match x, y with
      | .nilPtr, .nilPtr => some true
      | .nilPtr, .ptr _ _ => some false
      | .ptr _ _, .nilPtr => some false
      | .ptr b o, .ptr c q => match tsize P e with
        | some (_ + 1) => cond (Nat.beq b c) (some (Nat.beq o q)) none
        | _ => none
      | _, _ => none
    | some (.slice _) => match x, y with
      | .nilSlice, .nilSlice => some true
      | .nilSlice, .slice .. | .nilSlice, .sliceU .. | .slice .., .nilSlice | .sliceU .., .nilSlice => some false
      | _, _ => none
    | some (.map _ _) => match x, y with
      | .nilMap, .nilMap => some true
      | .nilMap, .map _ | .map _, .nilMap => some false
      | _, _ => none
    | some (.func _ _ _) => match x, y with
      | .nilFunc, .nilFunc => some true
      | .nilFunc, .func .. | .func .., .nilFunc => some false
      | _, _ => none
    | some (.interface _) => match x, y with
      | .nilIface, .iface .. | .iface .., .nilIface => some false
      | .iface t a, .iface u b => cond (Nat.beq t u) (match P.info? t with
        | some i => match i.comparable with
          | true => eqA P t f a b
          | false => none
        | none => none) (some false)
      | _, _ => none
    | some (.struct fs) => match x, y with
      | .agg xs, .agg ys => cond (P.stoodInHeld t) none (eqFields f xs ys fs.toList)
      | _, _ => none
    | _ => none
where eqFields (_f : Nat) (xs ys : List AV) : List Field → Option Bool
  | [] => some true
  | g :: fs => match P.underlying g.type, xs[g.offset]?, ys[g.offset]? with
    | some (.int _), some (.int k a), some (.int k' b) => cond (decide (k = k') && (g.name != "_")) (cond (eqI a b) (eqFields _f xs ys fs) (some false)) none
    | some .string, some (.str n c), some (.str m d) => cond (g.name != "_") (cond (Nat.beq n m && Nat.beq c d) (eqFields _f xs ys fs) (some false)) none
    | some .bool, some (.bool a), some (.bool b) => cond (g.name != "_") (cond (cond a b (!b)) (eqFields _f xs ys fs) (some false)) none
    | _, _, _ => none

/-- Two values of an interface type, of which one is the literal nil. -/
def binA (P : Program) (cst : Bool) (op : BinOp) (t : TypeId) (x y : AV) : Option AV :=
  match x, y with
  | .int k a, .int k' b => match op with
    | .shl | .shr => shiftA op k a b
    | _ => cond (decide (k = k')) (intOp op k a b) none
  | .str n c, .str m d => strOp op n c m d
  | .nilIface, .nilIface => match cst, P.underlying t with
    | true, some (.interface _) => match op with
      | .eql => some (.bool true)
      | .neq => some (.bool false)
      | _ => none
    | _, _ => none
  | .agg xs, .agg ys => cond (P.eqGuardType P.depth t) none (match op with
    | .eql => match eqA P t 3 (.agg xs) (.agg ys) with
      | some b => some (.bool b)
      | none => none
    | .neq => match eqA P t 3 (.agg xs) (.agg ys) with
      | some b => some (.bool (!b))
      | none => none
    | _ => none)
  | x, y => match op with
    | .eql => match eqA P t 3 x y with
      | some b => some (.bool b)
      | none => none
    | .neq => match eqA P t 3 x y with
      | some b => some (.bool (!b))
      | none => none
    | _ => none

def unA (op : UnOp) (x : AV) : Option AV :=
  match op, x with
  | .neg, .int k n => some (.int k (wrapA k (0 - n)))
  | .xor, .int k n => some (.int k (k.wrap (BitVec.ofInt k.bits (if k.signed then -1 else k.max) ^^^ BitVec.ofInt k.bits n).toNat))
  | .not, .bool b => some (.bool (!b))
  | _, _ => none

/-- Bytes read as a string. -/
def encA : List AV → Option Nat
  | [] => some 0
  | .int .u8 (.ofNat b) :: l => cond (Nat.blt b 256) (match encA l with
    | some n => some (b + 256 * n)
    | none => none) none
  | _ => none

def convA (P : Program) (h : T AB) (src dst : TypeId) (x : AV) : Option AV :=
  match P.underlying src, P.underlying dst, x with
  | some (.int _), some (.int k), .int _ n => some (.int k (wrapA k n))
  | some .string, some .string, .str n c => some (.str n c)
  | some (.slice e), some .string, x => match P.underlying e with
    | some (.int .u8) => match x with
      | .nilSlice => some (.str 0 0)
      | .slice b o n _ => match h.get b with
        | some (.cells cs _ _ _ _) => match getN cs o n with
          | some l => match encA l with
            | some c => some (.str n c)
            | none => none
          | none => none
        | _ => none
      | .sliceU b o n _ => match n with
        | 0 => some (.str 0 0)
        | n + 1 => match h.get b with
          | some (.cells cs _ _ _ _) => match getN cs o (n + 1) with
            | some l => match encA l with
              | some c => some (.str (n + 1) c)
              | none => none
            | none => none
          | _ => none
      | _ => none
    | _ => none
  | some (.pointer t), some .unsafePointer, .ptr b o => match h.get b with
    | some (.cells _ n _ _ _) => match tsize P t with
      | some (_ + 1) => cond (Nat.blt o n) (some (.ptr b o)) none
      | _ => none
    | _ => none
  | some .unsafePointer, some (.pointer u), .ptr b o => match h.get b with
    | some (.cells _ n e false _) => match tsize P u with
      | some (_ + 1) => cond (liesAt P P.depth e (n / P.cellsOf e) o u 1) (some (.ptr b o)) none
      | _ => none
    | _ => none
  | _, _, _ => none

def boundA : AV → Nat → Option Nat
  | .int _ (.ofNat i), y => cond (Nat.ble i y) (some i) none
  | _, _ => none

/-- lo and hi of a slice of so many, with so much room. -/
def boundsA (len cap : Nat) (lo hi : Option AV) : Option (Nat × Nat) :=
  match (match hi with
    | some v => boundA v cap
    | none => some len) with
  | none => none
  | some h => match lo with
    | some v => match boundA v h with
      | some l => some (l, h)
      | none => none
    | none => some (0, h)

def sliceA (P : Program) (h : T AB) (t : TypeId) (x : AV) (lo hi mx : Option AV) : Option AV :=
  match P.underlying t, x with
  | some .string, .str n c => match mx with
    | some _ => none
    | none => match boundsA n n lo hi with
      | some (l, r) => some (.str (r - l) (c / 256 ^ l % 256 ^ (r - l)))
      | none => none
  | some (.slice e), .nilSlice => match mx with
    | some _ => none
    | none => match boundsA 0 0 lo hi, tsize P e with
      | some _, some _ => some .nilSlice
      | _, _ => none
  | some (.slice e), .slice b o len cap => match tsize P e with
    | some es => match mx with
      | some m => match boundA m cap with
        | some m => match hi with
          | some hv => match boundA hv m with
            | some r => match (match lo with
                | some lv => boundA lv r
                | none => some 0) with
              | some l => some (.slice b (cond (Nat.beq m l) o (o + l * es)) (r - l) (m - l))
              | none => none
            | none => none
          | none => none
        | none => none
      | none => cond (Nat.ble len cap) (match boundsA len cap lo hi with
        | some (l, r) => some (.slice b (cond (Nat.beq cap l) o (o + l * es)) (r - l) (cap - l))
        | none => none) none
    | none => none
  | some (.slice e), .sliceU b o len es' => match tsize P e, h.get b with
    | some (es + 1), some (.cells _ n _ _ _) => cond (Nat.beq (es + 1) es') (match mx with
      | some m => match boundA m ((n - o) / (es + 1)) with
        | some m => match hi with
          | some hv => match boundA hv m with
            | some r => match (match lo with
                | some lv => boundA lv r
                | none => some 0) with
              | some l => cond (Nat.beq m l) none (some (.slice b (o + l * (es + 1)) (r - l) (m - l)))
              | none => none
            | none => none
          | none => none
        | none => none
      | none => cond (Nat.ble len ((n - o) / (es + 1))) (match boundsA len ((n - o) / (es + 1)) lo hi with
        | some (l, r) => some (.sliceU b (o + l * (es + 1)) (r - l) (es + 1))
        | none => none) none) none
    | _, _ => none
  | some (.array n e), .ptr b o => match tsize P e with
    | some es => match mx with
      | some _ => none
      | none => match boundsA n n lo hi with
        | some (l, r) => some (.slice b (cond (Nat.beq n l) o (o + l * es)) (r - l) (n - l))
        | none => none
    | none => none
  | _, _ => none

def indexAddrA (P : Program) (t : TypeId) (x ix : AV) : Option AV :=
  match ix with
  | .int _ (.ofNat i) => match P.underlying t, x with
    | some (.slice e), .slice b o len _ => match tsize P e with
      | some es => cond (Nat.blt i len) (some (.ptr b (o + i * es))) none
      | none => none
    | some (.slice e), .sliceU b o len _ => match tsize P e with
      | some es => cond (Nat.blt i len) (some (.ptr b (o + i * es))) none
      | none => none
    | some (.array n e), .ptr b o => match tsize P e with
      | some es => cond (Nat.blt i n) (some (.ptr b (o + i * es))) none
      | none => none
    | _, _ => none
  | _ => none

def fieldAddrA (P : Program) (s : TypeId) (x : AV) (f : Nat) : Option AV :=
  match P.underlying s, x with
  | some (.struct fs), .ptr b o => match fs[f]? with
    | some fd => match tsize P fd.type with
      | some (_ + 1) => some (.ptr b (o + fd.offset))
      | _ => none
    | none => none
  | _, _ => none

/-- The value of a key in a map's entries, and which entry. -/
def findA (P : Program) (kt : TypeId) (k : AV) : List AME → Nat → Option (Option (Nat × AV))
  | [], _ => some none
  | e :: es, i => match eqA P kt 3 k e.key with
    | some true => some (some (i, e.val))
    | some false => findA P kt k es (i + 1)
    | none => none

/-- A key that needs no look: no interface in it. -/
def keyOk (P : Program) (kt : TypeId) (k : AV) : Bool :=
  match P.underlying kt, k with
  | some (.int _), .int _ _ => true
  | some .string, .str _ _ => true
  | some (.struct fs), .agg cs => fs.toList.all fun g => match P.underlying g.type, cs[g.offset]? with
    | some (.int _), some (.int _ _) => true
    | some .string, some (.str _ _) => true
    | _, _ => false
  | _, _ => false

/-- Each key can be held against k, and one alone is k. -/
def allKeys (P : Program) (kt : TypeId) (k : AV) : List AME → Bool
  | [] => true
  | e :: es => match eqA P kt 3 k e.key with
    | some true => noKey P kt k es && allKeys P kt k es
    | some false => allKeys P kt k es
    | none => false
where noKey (P : Program) (kt : TypeId) (k : AV) : List AME → Bool
  | [] => true
  | e :: es => match eqA P kt 3 k e.key with
    | some false => noKey P kt k es
    | _ => false

def lookupA (P : Program) (h : T AB) (t : TypeId) (x ix : AV) (ok : Bool) : Option AV :=
  match P.underlying t with
  | some (.map kt et) => match keyOk P kt ix with
    | false => none
    | true => match (match x with
        | .nilMap => some []
        | .map r => match h.get r with
          | some (.map es _) => some es
          | some (.mapS es) => cond (allKeys P kt ix es) (some es) none
          | _ => none
        | _ => none) with
      | none => none
      | some es => match findA P kt ix es 0 with
        | none => none
        | some (some (_, v)) => some (cond ok (.tuple [v, .bool true]) v)
        | some none => match tzero P et with
          | some z => some (cond ok (.tuple [z, .bool false]) z)
          | none => none
  | _ => none

def fillA (place : Nat → Option (Nat × Nat)) (cells : T AV) : List (Nat × AV) → Option (T AV)
  | [] => some cells
  | (i, v) :: rest => match place i with
    | none => none
    | some (off, size) => cond (Nat.beq v.cells.length size) (fillA place (setL cells off v.cells) rest) none

/-- All the fields of a struct have a size. -/
def fieldsSized (P : Program) (fs : List Field) : Bool := fs.all fun f => (tsize P f.type).isSome

def buildA (P : Program) (t : TypeId) (parts : List (Nat × AV)) : Option AV :=
  match tzero P t, P.underlying t with
  | some z, some (.struct fs) =>
    match cond (fieldsSized P fs.toList) (fillA (fun i => match fs[i]? with
      | some f => match tsize P f.type with
        | some n => cond (Nat.ble (f.offset + n) z.cells.length) (some (f.offset, n)) none
        | none => none
      | none => none) (T.ofList .leaf 0 z.cells) parts) none with
    | some cs => match getN cs 0 z.cells.length with
      | some l => some (.agg l)
      | none => none
    | none => none
  | some z, some (.array _ e) => match tsize P e with
    | some n => match fillA (fun i => cond (Nat.ble (i * n + n) z.cells.length) (some (i * n, n)) none) (T.ofList .leaf 0 z.cells) parts with
      | some cs => match getN cs 0 z.cells.length with
        | some l => some (.agg l)
        | none => none
      | none => none
    | none => none
  | _, _ => none

def partsA (G : Nat) (tm : T AV) : List (Nat × Operand) → Option (List (Nat × AV))
  | [] => some []
  | (i, x) :: l => match opnd G tm x with
    | some a => match partsA G tm l with
      | some b => some ((i, a) :: b)
      | none => none
    | none => none

def lenA (P : Program) (h : T AB) (t : TypeId) (x : AV) : Option AV :=
  match P.underlying t, x with
  | some .string, .str n _ => some (.int .i64 (.ofNat n))
  | some (.slice _), .nilSlice => some (.int .i64 0)
  | some (.slice _), .slice _ _ n _ => some (.int .i64 (.ofNat n))
  | some (.slice _), .sliceU _ _ n _ => some (.int .i64 (.ofNat n))
  | some (.map _ _), .nilMap => some (.int .i64 0)
  | some (.map _ _), .map r => match h.get r with
    | some (.map es _) => some (.int .i64 (.ofNat es.length))
    | _ => none
  | _, _ => none

def capA (P : Program) (t : TypeId) (x : AV) : Option AV :=
  match P.underlying t, x with
  | some (.slice _), .nilSlice => some (.int .i64 0)
  | some (.slice _), .slice _ _ _ n => some (.int .i64 (.ofNat n))
  | _, _ => none

def maxA : AV → AV → Option AV
  | .int k x, .int _ y => some (.int k (cond (ltI x y) y x))
  | _, _ => none
def minA : AV → AV → Option AV
  | .int k x, .int _ y => some (.int k (cond (ltI y x) y x))
  | _, _ => none

def sdataA : AV → Option AV
  | .nilSlice => some .nilPtr
  | .slice b o _ (_ + 1) => some (.ptr b o)
  | .sliceU b o (_ + 1) _ => some (.ptr b o)
  | _ => none

inductive OK where
  | quiet | alloc | eff | call

/-- What kind of operation it is. -/
def kindOf (P : Program) (o : Oper) : OK :=
  match o.op with
  | .alloc _ | .box .. | .buildSlice .. | .makeMap .. | .makeSlice .. => .alloc
  | .convert s d _ => match P.underlying s, P.underlying d with
    | some .string, some (.slice _) => .alloc
    | some (.slice _), some (.slice _) => .eff
    | _, _ => .quiet
  | .store .. | .mapUpdate .. | .insert .. | .mapEntry .. | .entryStore .. => .eff
  | .call c => match c.callee with
    | .builtin b => match b with
      | .append | .copy | .clear | .unsafeString => .eff
      | _ => .quiet
    | _ => .call
  | .go _ | .defer _ => .call
  | _ => .quiet

def optA (G : Nat) (tm : T AV) : Option Operand → Option (Option AV)
  | none => some none
  | some x => match opnd G tm x with
    | some v => some (some v)
    | none => none

def qop (P : Program) (G : Nat) (h : T AB) (tm : T AV) (o : Oper) : Option AV :=
  match o.op with
  | .move x => opnd G tm x
  | .assign x => opnd G tm x
  | .pick c a b => match opnd G tm c with
    | some (.bool true) => opnd G tm a
    | some (.bool false) => opnd G tm b
    | _ => none
  | .build t ps => match partsA G tm ps.toList with
    | some l => buildA P t l
    | none => none
  | .load t a => match opnd G tm a with
    | some v => loadA P h t v
    | none => none
  | .nilCheck x => match opnd G tm x with
    | some v => match v with
      | .nilPtr | .nilIface | .nilFunc => none
      | _ => some v
    | none => none
  | .binOp op t x y _ => match opnd G tm x, opnd G tm y with
    | some a, some b => binA P (Region.isConst x || Region.isConst y) op t a b
    | _, _ => none
  | .unOp op _ x => match opnd G tm x with
    | some a => unA op a
    | none => none
  | .convert s d x => match opnd G tm x with
    | some a => convA P h s d a
    | none => none
  | .makeInterface t x => match opnd G tm x, P.underlying t with
    | some a, some d => match d with
      | .interface _ => none
      | _ => some (.iface t a)
    | _, _ => none
  | .makeFunc fn fi ca => match fn with
    | .func f => match opnds G tm fi.toList, opnds G tm ca.toList with
      | some a, some b => some (.func f a b)
      | _, _ => none
    | _ => none
  | .slice t x lo hi mx => match opnd G tm x, optA G tm lo, optA G tm hi, optA G tm mx with
    | some a, some l, some r, some m => sliceA P h t a l r m
    | _, _, _, _ => none
  | .fieldAddr s x f => match opnd G tm x with
    | some a => fieldAddrA P s a f
    | none => none
  | .field t x f => match opnd G tm x, P.underlying t with
    | some (.agg cs), some (.struct fs) => match fs[f]? with
      | some fd => partA P fd.type cs fd.offset
      | none => none
    | _, _ => none
  | .indexAddr t x ix => match opnd G tm x, opnd G tm ix with
    | some a, some b => indexAddrA P t a b
    | _, _ => none
  | .index t x ix => match P.underlying t, opnd G tm x, opnd G tm ix with
    | some .string, some (.str n c), some (.int _ (.ofNat i)) => cond (Nat.blt i n) (some (.int .u8 (.ofNat (c / 256 ^ i % 256)))) none
    | _, _, _ => none
  | .lookup t x ix ok => match opnd G tm x, opnd G tm ix with
    | some a, some b => lookupA P h t a b ok
    | _, _ => none
  | .extract x ix => match opnd G tm x with
    | some (.tuple vs) => vs[ix]?
    | _ => none
  | .call c => match c.callee with
    | .builtin b => match opnds G tm c.args.toList with
      | some args => match b, args, c.argTypes.toList with
        | .len, [x], t :: _ => lenA P h t x
        | .cap, [x], t :: _ => capA P t x
        | .max, [x, y], _ => maxA x y
        | .min, [x, y], _ => minA x y
        | .unsafeSliceData, [x], _ => sdataA x
        | _, _, _ => none
      | none => none
    | _ => none
  | _ => none

/-! ### operations that make a block -/

def isOne : List AV → Bool
  | [] => true
  | v :: l => v.one && isOne l

def repA : Nat → List AV → List AV
  | 0, _ => []
  | n + 1, l => l ++ repA n l

inductive Mk where
  | ptr | slice (len cap : Nat) | sliceU (len es : Nat) | map

def Mk.val : Mk → Nat → AV
  | .ptr, i => .ptr i 0
  | .slice n c, i => .slice i 0 n c
  | .sliceU n es, i => .sliceU i 0 n es
  | .map, i => .map i

def bytesA : Nat → Nat → List AV
  | 0, _ => []
  | n + 1, c => .int .u8 (.ofNat (c % 256)) :: bytesA n (c / 256)

def lop (P : Program) (G : Nat) (tm : T AV) (o : Oper) : Option (AB × Mk) :=
  match o.op with
  | .alloc t => match tzero P t with
    | some z => cond (isOne z.cells) (some (.cells (T.ofList .leaf 0 z.cells) z.cells.length t false false, .ptr)) none
    | none => none
  | .box t x => match opnd G tm x with
    | some v => cond (isOne v.cells) (some (.cells (T.ofList .leaf 0 v.cells) v.cells.length t false false, .ptr)) none
    | none => none
  | .buildSlice t len ps => match partsA G tm ps.toList, P.underlying t with
    | some parts, some (.slice e) => match tsize P e, tzero P e with
      | some es, some z => cond (Nat.ble (len * es) 16777216 && Nat.beq z.cells.length es) (
          match fillA (fun i => cond (Nat.blt i len) (some (i * es, es)) none) (T.ofList .leaf 0 (repA len z.cells)) parts with
          | some cs => some (.cells cs (len * es) e false false, .slice len len)
          | none => none) none
      | _, _ => none
    | _, _ => none
  | .makeMap _ none => some (.map [] 0, .map)
  | .makeSlice t l c => match opnd G tm l, opnd G tm c, P.underlying t with
    | some (.int .i64 (.ofNat n)), some (.int .i64 (.ofNat m)), some (.slice e) => match P.info? e, tzero P e with
      | some i, some z => cond (Nat.ble n m && Nat.ble (i.bytes * m) 281474976710656 && Nat.beq z.cells.length i.size && Nat.ble m 4611686018427387904) (
          some (.cells (T.ofList .leaf 0 (repA m z.cells)) (m * i.size) e false false, .slice n m)) none
      | _, _ => none
    | _, _, _ => none
  | .convert s d x => match opnd G tm x, P.underlying s, P.underlying d with
    | some (.str n c), some .string, some (.slice e) => match P.underlying e with
      | some (.int .u8) => some (.cells (T.ofList .leaf 0 (bytesA n c)) n e true false, .sliceU n 1)
      | _ => none
    | _, _, _ => none
  | _ => none

/-! ### operations that turn a block -/

def storeA (P : Program) (h : T AB) (t : TypeId) (a v : AV) : Option (T AB) :=
  match a with
  | .ptr b o => match h.get b with
    | some (.cells cs n e opn false) => match tsize P t with
      | some s => cond (Nat.beq v.cells.length s && Nat.ble (o + s) n && isOne v.cells) (some (h.set b (.cells (setL cs o v.cells) n e opn false))) none
      | none => none
    | _ => none
  | _ => none

/-- The cells of what is appended, copied. -/
def cellsOfA (h : T AB) (es : Nat) (n : Nat) : AV → Option (List AV)
  | .nilSlice => some []
  | .slice b o _ _ => match h.get b with
    | some (.cells cs _ _ _ _) => getN cs o (n * es)
    | _ => none
  | .sliceU b o len _ => match len with
    | 0 => some []
    | _ + 1 => match h.get b with
      | some (.cells cs _ _ _ _) => getN cs o (n * es)
      | _ => none
  | .str _ c => cond (Nat.beq es 1) (some (bytesA n c)) none
  | _ => none

def lenOfA : AV → Option Nat
  | .nilSlice => some 0
  | .slice _ _ n _ => some n
  | .sliceU _ _ n _ => some n
  | .str n _ => some n
  | _ => none

/-- What is appended: how many, which cells. -/
def newA (P : Program) (h : T AB) (i : TypeInfo) (z : List AV) (xT : TypeId) (x : AV) : Option (Nat × List AV) :=
  match P.underlying xT with
  | some (.int _) => match x with
    | .int .i64 (.ofNat n) => cond (Nat.ble n 4611686018427387904 && Nat.ble (n * i.bytes) 281474976710656) (some (n, repA n z)) none
    | _ => none
  | some _ => match lenOfA x with
    | some n => match cellsOfA h i.size n x with
      | some l => some (n, l)
      | none => none
    | none => none
  | none => none

/-- append: in its place, where there is surely room; else a new block, the old one no more tracked where it may be the same. -/
def appendA (P : Program) (h : T AB) (nx : Nat) (sT xT : TypeId) (s x : AV) : Option (AV × T AB × Nat) :=
  match P.underlying sT with
  | some (.slice e) => match P.info? e, tzero P e with
    | some i, some z => match i.size with
      | 0 => none
      | es + 1 => cond (Nat.beq z.cells.length (es + 1) && Nat.ble 1 i.bytes) (match newA P h i z.cells xT x with
        | none => none
        | some (n, new) => cond (isOne new && isOne z.cells) (match n with
          | 0 => match s with
            | .nilSlice => some (.nilSlice, h, nx)
            | .slice b o len cap => cond (Nat.ble len cap) (some (.slice b o len cap, h, nx)) none
            | .sliceU b o len es' => some (.sliceU b o len es', h, nx)
            | _ => none
          | m + 1 => match s with
            | .nilSlice => cond (Nat.ble ((2 * (m + 1)) * i.bytes) 281474976710656) (
                some (.sliceU nx 0 (m + 1) (es + 1), h.set nx (.cells (T.ofList .leaf 0 new) ((m + 1) * (es + 1)) e true false), nx + 1)) none
            | .slice b o len cap => match h.get b with
              | some (.cells cs q e' opn fz) => cond (Nat.ble (len + (m + 1)) cap) (
                  cond (Nat.ble (o + (len + (m + 1)) * (es + 1)) q && !fz) (
                    some (.slice b o (len + (m + 1)) cap, h.set b (.cells (setL cs (o + len * (es + 1)) new) q e' opn false), nx)) none)
                  (match getN cs o (len * (es + 1)) with
                   | none => none
                   | some old => cond (isOne old && Nat.ble ((2 * (len + (m + 1)) + 2 * cap + 2000) * i.bytes) 281474976710656) (
                      some (.sliceU nx 0 (len + (m + 1)) (es + 1), h.set nx (.cells (T.ofList .leaf 0 (old ++ new)) ((len + (m + 1)) * (es + 1)) e true false), nx + 1)) none)
              | _ => none
            | .sliceU b o len es' => cond (Nat.beq es' (es + 1)) (match h.get b with
              | some (.cells cs q e' opn fz) => cond (Nat.ble (o + (len + (m + 1)) * (es + 1)) q && (!fz && !Nat.beq len 0)) (
                  some (.sliceU b o (len + (m + 1)) es', h.set b (.cells (setL cs (o + len * (es + 1)) new) q e' opn false), nx))
                  (cond fz none (match getN cs o (len * (es + 1)) with
                   | none => none
                   | some old => cond (isOne old && (Nat.beq e' e && Nat.ble ((2 * (len + (m + 1)) + 2000) * i.bytes) 140737488355328)) (
                      some (.sliceU nx 0 (len + (m + 1)) (es + 1), (h.del b).set nx (.cells (T.ofList .leaf 0 (old ++ new)) ((len + (m + 1)) * (es + 1)) e true false), nx + 1)) none))
              | _ => none) none
            | _ => none) none) none
    | _, _ => none
  | _ => none

def copyA (P : Program) (h : T AB) (dT : TypeId) (d x : AV) : Option (AV × T AB) :=
  match P.underlying dT with
  | some (.slice e) => match tsize P e, lenOfA d, lenOfA x with
    | some es, some dl, some xl => match cellsOfA h es (Nat.min xl dl) x with
      | some new => match d with
        | .nilSlice => some (.int .i64 0, h)
        | .slice b o _ _ => match h.get b with
          | some (.cells cs n e' opn false) => cond (isOne new && Nat.ble (o + new.length) n) (some (.int .i64 (.ofNat (Nat.min xl dl)), h.set b (.cells (setL cs o new) n e' opn false))) none
          | _ => none
        | .sliceU b o (_ + 1) _ => match h.get b with
          | some (.cells cs n e' opn false) => cond (isOne new && Nat.ble (o + new.length) n) (some (.int .i64 (.ofNat (Nat.min xl dl)), h.set b (.cells (setL cs o new) n e' opn false))) none
          | _ => none
        | _ => none
      | none => none
    | _, _, _ => none
  | _ => none

def setVal (v : AV) : List AME → Nat → List AME
  | [], _ => []
  | e :: l, 0 => { e with val := v } :: l
  | e :: l, i + 1 => e :: setVal v l i

def sameFlat : AV → AV → Bool
  | .int k a, .int k' b => decide (k = k') && eqI a b
  | .str n c, .str m d => Nat.beq n m && Nat.beq c d
  | _, _ => false
def sameFlats : List AV → List AV → Bool
  | [], [] => true
  | a :: l, b :: m => sameFlat a b && sameFlats l m
  | _, _ => false
/-- The same key, in the same words. -/
def sameKey : AV → AV → Bool
  | .agg l, .agg m => sameFlats l m
  | a, b => sameFlat a b
def keyAt (k : AV) (es : List AME) (i : Nat) : Bool :=
  match es[i]? with
  | some e => sameKey e.key k
  | none => false

def mapUpdateA (P : Program) (h : T AB) (t : TypeId) (m k v : AV) : Option (T AB) :=
  match P.underlying t, m with
  | some (.map kt _), .map r => match h.get r with
    | some (.map es clock) => match keyOk P kt k with
      | false => none
      | true => match findA P kt k es 0 with
        | none => none
        | some (some (i, _)) => cond (keyAt k es i) (some (h.set r (.map (setVal v es i) clock))) none
        | some none => some (h.set r (.map (es ++ [{ key := k, val := v, born := clock }]) (clock + 1)))
    | _ => none
  | _, _ => none

def mapEntryA (P : Program) (h : T AB) (t : TypeId) (m k : AV) : Option (AV × T AB) :=
  match P.underlying t, m with
  | some (.map kt et), .map r => match h.get r with
    | some (.map es clock) => match keyOk P kt k with
      | false => none
      | true => match findA P kt k es 0 with
        | none => none
        | some (some (i, v)) => match es[i]? with
          | some e => cond (sameKey e.key k) (some (.tuple [v, .int .i64 (.ofNat e.born)], h)) none
          | none => none
        | some none => match tzero P et with
          | some z => some (.tuple [z, .int .i64 (.ofNat clock)], h.set r (.map (es ++ [{ key := k, val := z, born := clock }]) (clock + 1)))
          | none => none
    | _ => none
  | _, _ => none

def findBorn (n : Nat) : List AME → Nat → Option Nat
  | [], _ => none
  | e :: l, i => cond (Nat.beq e.born n) (some i) (findBorn n l (i + 1))

def entryStoreA (h : T AB) (m s v : AV) : Option (T AB) :=
  match m, s with
  | .map r, .int _ (.ofNat n) => match h.get r with
    | some (.map es clock) => match findBorn n es 0 with
      | some i => some (h.set r (.map (setVal v es i) clock))
      | none => none
    | _ => none
  | _, _ => none

/-- What an operation comes to that turns memory: its value (none: nothing), the heap. -/
def eop (P : Program) (G : Nat) (h : T AB) (nx : Nat) (tm : T AV) (o : Oper) : Option (AV × T AB × Nat) :=
  match o.op with
  | .store t a x => match opnd G tm a, opnd G tm x with
    | some a, some v => match storeA P h t a v with
      | some h' => some (.tuple [], h', nx)
      | none => none
    | _, _ => none
  | .mapUpdate t m k x => match opnd G tm m, opnd G tm k, opnd G tm x with
    | some m, some k, some v => match mapUpdateA P h t m k v with
      | some h' => some (.tuple [], h', nx)
      | none => none
    | _, _, _ => none
  | .insert t m k x => match opnd G tm m, opnd G tm k, opnd G tm x with
    | some m, some k, some v => match mapUpdateA P h t m k v with
      | some h' => some (.tuple [], h', nx)
      | none => none
    | _, _, _ => none
  | .mapEntry t m k => match opnd G tm m, opnd G tm k with
    | some m, some k => match mapEntryA P h t m k with
      | some (v, h') => some (v, h', nx)
      | none => none
    | _, _ => none
  | .entryStore _ m s x => match opnd G tm m, opnd G tm s, opnd G tm x with
    | some m, some s, some v => match entryStoreA h m s v with
      | some h' => some (.tuple [], h', nx)
      | none => none
    | _, _, _ => none
  | .convert s d x => match opnd G tm x, P.underlying s, P.underlying d with
    | some v, some (.slice _), some (.slice e) => match P.underlying e, v with
      | some (.int .u8), .slice b o n c => cond (Nat.beq s d) (match h.get b with
        | some (.cells cs m e' opn _) => some (.slice b o n c, h.set b (.cells cs m e' opn true), nx)
        | _ => none) none
      | _, _ => none
    | _, _, _ => none
  | .call c => match c.callee with
    | .builtin b => match opnds G tm c.args.toList with
      | some args => match b, args, c.argTypes.toList with
        | .append, [s, x], sT :: xT :: _ => appendA P h nx sT xT s x
        | .copy, [d, x], dT :: _ => match copyA P h dT d x with
          | some (v, h') => some (v, h', nx)
          | none => none
        | .clear, [x], t :: _ => match P.underlying t, x with
          | some (.slice e), .slice b o n _ => match tzero P e, tsize P e, h.get b with
            | some z, some es, some (.cells cs m e' opn false) => cond (Nat.beq z.cells.length es && isOne z.cells && Nat.ble (o + n * es) m) (
                some (.tuple [], h.set b (.cells (setL cs o (repA n z.cells)) m e' opn false), nx)) none
            | _, _, _ => none
          | some (.slice e), .sliceU b o n _ => match n with
            | 0 => some (.tuple [], h, nx)
            | n + 1 => match tzero P e, tsize P e, h.get b with
              | some z, some es, some (.cells cs m e' opn false) => cond (Nat.beq z.cells.length es && isOne z.cells && Nat.ble (o + (n + 1) * es) m) (
                  some (.tuple [], h.set b (.cells (setL cs o (repA (n + 1) z.cells)) m e' opn false), nx)) none
              | _, _, _ => none
          | _, _ => none
        | .unsafeString, [x, l], pt :: _ => match x, l with
          | .nilPtr, .int _ (.ofNat 0) => some (.str 0 0, h, nx)
          | .ptr _ _, .int _ (.ofNat 0) => some (.str 0 0, h, nx)
          | .ptr b o, .int _ (.ofNat (n + 1)) => match h.get b with
            | some (.cells cs m e opn _) => match P.underlying pt, getN cs o (n + 1), tsize P e with
              | some (.pointer u), some l, some 1 => match encA l with
                | some c => cond (Nat.beq u e && (Nat.ble (n + 1) 4611686018427387904 && Nat.ble (o + (n + 1)) m)) (some (.str (n + 1) c, h.set b (.cells cs m e opn true), nx)) none
                | none => none
              | _, _, _ => none
            | _ => none
          | _, _ => none
        | _, _, _ => none
      | none => none
    | _ => none
  | _ => none

end Go.Abs

namespace Go.Abs

/-! ### equality of abstract values -/

def fnEq (a b : Nat) : Bool := Nat.beq a b
mutual
def AV.beq : AV → AV → Bool
  | .bool a, .bool b => cond a b (!b)
  | .int k a, .int j b => decide (k = j) && eqI a b
  | .str n c, .str m d => Nat.beq n m && Nat.beq c d
  | .ptr a b, .ptr c d => Nat.beq a c && Nat.beq b d
  | .nilPtr, .nilPtr => true
  | .slice a b c d, .slice e f g h => Nat.beq a e && (Nat.beq b f && (Nat.beq c g && Nat.beq d h))
  | .sliceU a b c d, .sliceU e f g h => Nat.beq a e && (Nat.beq b f && (Nat.beq c g && Nat.beq d h))
  | .nilSlice, .nilSlice => true
  | .map a, .map b => Nat.beq a b
  | .nilMap, .nilMap => true
  | .func f a b, .func g c d => Nat.beq f g && (AV.beqs a c && AV.beqs b d)
  | .yield a, .yield b => Nat.beq a b
  | .nilFunc, .nilFunc => true
  | .iface t v, .iface u x => Nat.beq t u && AV.beq v x
  | .nilIface, .nilIface => true
  | .agg a, .agg b => AV.beqs a b
  | .tuple a, .tuple b => AV.beqs a b
  | _, _ => false
def AV.beqs : List AV → List AV → Bool
  | [], [] => true
  | a :: l, b :: m => AV.beq a b && AV.beqs l m
  | _, _ => false
end

/-! ### body-less functions -/

inductive EK where
  | load (k : IntKind) | store | cas (k : IntKind) | add (k : IntKind) | same | indexByte | none1 | none0

def findByte (b : Nat) : Nat → Nat → Nat → Option Nat
  | 0, _, _ => none
  | n + 1, c, i => cond (Nat.beq (c % 256) b) (some i) (findByte b n (c / 256) (i + 1))

def extA (k : EK) (h : T AB) (args : List AV) : Option (AV × T AB) :=
  match k, args with
  | .load k, [.ptr b o] => match h.get b with
    | some (.cells cs _ _ _ _) => match cs.get o with
      | some (.int k' n) => cond (decide (k = k')) (some (.int k' n, h)) none
      | _ => none
    | _ => none
  | .store, [.ptr b o, .int j y] => match h.get b with
    | some (.cells cs n e opn false) => cond (Nat.blt o n) (some (.tuple [], h.set b (.cells (cs.set o (.int j y)) n e opn false))) none
    | _ => none
  | .cas k, [.ptr b o, .int k1 x, .int j y] => match h.get b with
    | some (.cells cs n e opn false) => match cs.get o with
      | some (.int k' z) => cond (decide (k = k') && (decide (k1 = k) && (decide (j = k) && Nat.blt o n))) (cond (eqI z x) (some (.bool true, h.set b (.cells (cs.set o (.int j y)) n e opn false))) (some (.bool false, h))) none
      | _ => none
    | _ => none
  | .add k, [.ptr b o, .int j y] => match h.get b with
    | some (.cells cs n e opn false) => match cs.get o with
      | some (.int k' z) => cond (decide (k = k') && (decide (j = k) && Nat.blt o n)) (some (.int k (wrapA k (z + y)), h.set b (.cells (cs.set o (.int k (wrapA k (z + y)))) n e opn false))) none
      | _ => none
    | _ => none
  | .same, [x] => some (x, h)
  | .indexByte, [.str n c, .int .u8 (.ofNat b)] => match findByte b n c 0 with
    | some i => some (.int .i64 (.ofNat i), h)
    | none => some (.int .i64 (-1), h)
  | .none1, .ptr _ _ :: _ => some (.tuple [], h)
  | .none0, _ => some (.tuple [], h)
  | _, _ => none

/-! ### the evaluator -/

inductive AD where
  | call (f : FuncId) (args : List AV)
  | mark (r : Nat)

structure Fs where
  tm : T AV
  nt : Nat
  df : List AD
  hp : T AB
  nx : Nat

inductive AX where
  | normal | exit (id : Nat) | ret

structure Cfg where
  P : Program
  G : Nat
  X : FuncId → Option EK

abbrev RC := FuncId → List AV → T AB → Nat → Option (AV × T AB × Nat)
abbrev RL := Code → Option Nat → Nat → Fs → Option (AX × Fs)

/-- Whom a call calls, with what. -/
inductive Who where
  | func (f : FuncId) (args : List AV)
  | yield (l : Nat) (args : List AV)

def whoA (G : Nat) (tm : T AV) (c : Call) : Option Who :=
  match c.callee with
  | .value g => match opnd G tm g, opnds G tm c.args.toList with
    | some (.func f fs cs), some args => some (.func f ((fs ++ args) ++ cs))
    | some (.yield l), some args => some (.yield l args)
    | _, _ => none
  | _ => none

def putD (s : Fs) (d : Option Tmp) (v : AV) : Option Fs :=
  match d with
  | none => some s
  | some t => cond (Nat.blt t s.nt) (some { s with tm := s.tm.set t v }) none

/-- Is an operation wanted? -/
def wantedA (ops : Array Oper) (tm : T AV) (o : Oper) : Option Bool :=
  match o.guard with
  | none => some true
  | some (j, want) => match ops[j]? with
    | some q => match q.dst with
      | some d => match tm.get d with
        | some (.bool b) => some (cond b want (!want))
        | some _ => some false
        | none => none
      | none => none
    | none => none

def funcA (C : Cfg) (rc : RC) (f : FuncId) (args : List AV) (h : T AB) (nx : Nat) : Option (AV × T AB × Nat) :=
  match C.P.funcs[f]? with
  | some fn => match fn.body with
    | some _ => rc f args h nx
    | none => match C.X f with
      | some k => match extA k h args with
        | some (v, h') => some (v, h', nx)
        | none => none
      | none => none
  | none => none

def setParams (tm : T AV) : List Tmp → List AV → T AV
  | t :: ts, v :: vs => setParams (tm.set t v) ts vs
  | _, _ => tm

/-- One operation, in its order. -/
def stepA (C : Cfg) (rc : RC) (rr : Code → Option Nat → Nat → Fs → Option (AX × Fs)) (o : Oper) (s : Fs) (cf : FuncId) : Option Fs :=
  match kindOf C.P o with
  | .quiet => match qop C.P C.G s.hp s.tm o with
    | some v => putD s o.dst v
    | none => none
  | .alloc => match lop C.P C.G s.tm o with
    | some (b, m) => putD { s with hp := s.hp.set s.nx b, nx := s.nx + 1 } o.dst (m.val s.nx)
    | none => none
  | .eff => match eop C.P C.G s.hp s.nx s.tm o with
    | some (v, h, nx) => putD { s with hp := h, nx := nx } o.dst v
    | none => none
  | .call => match o.op with
    | .call c => match whoA C.G s.tm c with
      | some (.func f args) => match funcA C rc f args s.hp s.nx with
        | some (v, h, nx) => putD { s with hp := h, nx := nx } o.dst v
        | none => none
      | some (.yield l args) => match s.hp.get l with
        | some (.loop al) => match al.state with
          | .ready => cond (Nat.beq args.length al.params.size && al.params.toList.all (fun t => Nat.blt t al.ntm)) (
            match rr al.assign (some l) al.fn { tm := setParams al.tm al.params.toList args, nt := al.ntm, df := [], hp := s.hp, nx := s.nx } with
            | some (.normal, s1) => match s1.hp.get l with
              | some (.loop al1) => match al1.state with
                | .ready => match rr al.body (some l) al.fn { s1 with hp := s1.hp.set l (.loop { al1 with state := .busy }) } with
                  | some (x, s2) => match s2.df, s2.hp.get l with
                    | [], some (.loop al2) => match x with
                      | .normal => putD { s with hp := s2.hp.set l (.loop { al2 with state := .ready, pending := none }), nx := s2.nx } o.dst (.bool true)
                      | .ret => putD { s with hp := s2.hp.set l (.loop { al2 with state := .done, pending := some .ret }), nx := s2.nx } o.dst (.bool false)
                      | .exit id => putD { s with hp := s2.hp.set l (.loop { al2 with state := .done, pending := some (.exit id) }), nx := s2.nx } o.dst (.bool false)
                    | _, _ => none
                  | none => none
                | _ => none
              | _ => none
            | _ => none) none
          | _ => none
        | _ => none
      | none => none
    | .defer c => match whoA C.G s.tm c with
      | some (.func f args) => match C.P.funcs[f]? with
        | some fn => match fn.body with
          | some _ => putD { s with df := .call f args :: s.df } o.dst (.tuple [])
          | none => none
        | none => none
      | _ => none
    | _ => none

def opsA (C : Cfg) (rc : RC) (rr : Code → Option Nat → Nat → Fs → Option (AX × Fs)) (ops : Array Oper) (cf : FuncId) (rd : Option Nat) : List Oper → Fs → Option Fs
  | [], s => some s
  | o :: l, s => match wantedA ops s.tm o with
    | some true => match rd, o.op with
      | some _, .defer _ => none
      | _, _ => match stepA C rc rr o s cf with
        | some s' => opsA C rc rr ops cf rd l s'
        | none => none
    | some false => match putD s o.dst (.tuple []) with
      | some s' => opsA C rc rr ops cf rd l s'
      | none => none
    | none => none

/-! ### a region that draws its order -/

/-- Does a quiet operation look at memory? -/
def reads (P : Program) (o : Oper) : Bool :=
  match o.op with
  | .load .. | .lookup .. => true
  | .slice t .. => match P.underlying t with
    | some .string => false
    | _ => true
  | .convert s d _ => match P.underlying s, P.underlying d with
    | some (.int _), some (.int _) => false
    | _, _ => true
  | .call c => match c.callee with
    | .builtin .len => match c.argTypes.toList with
      | t :: _ => match P.underlying t with
        | some (.map _ _) => true
        | _ => false
      | _ => true
    | _ => false
  | _ => false

def isAlloc (P : Program) (o : Oper) : Bool :=
  match kindOf P o with
  | .alloc => true
  | _ => false

/-- A quiet operation's word, to be asked again at the other states of memory between which it may stand. -/
structure Rec where
  i : Nat
  o : Oper
  tm : T AV
  v : AV

structure Ds where
  tm : T AV
  hp : T AB
  nx : Nat
  /-- the heap ahead of each effect, and which one, the last first -/
  hs : List (T AB × Nat)
  fl : List (Nat × Nat × AB)
  al : Nat
  rs : List Rec

/-- What counts as an effect in a region that draws. -/
def effD (P : Program) (o : Oper) : Bool :=
  match kindOf P o with
  | .eff | .call => true
  | _ => false

def allocsOf (P : Program) (ops : Array Oper) : Nat := (ops.toList.filter fun o => isAlloc P o).length

/-- The blocks that are made ahead of an effect come to the heap. -/
def absorbH (m : Nat) : List (Nat × Nat × AB) → T AB → T AB
  | [], h => h
  | (i, id, b) :: l, h => absorbH m l (cond (Nat.testBit m i) (h.set id b) h)

def absorbF (m : Nat) : List (Nat × Nat × AB) → List (Nat × Nat × AB)
  | [] => []
  | (i, id, b) :: l => cond (Nat.testBit m i) (absorbF m l) ((i, id, b) :: absorbF m l)

def absorbAll : List (Nat × Nat × AB) → T AB → T AB
  | [], h => h
  | (_, id, b) :: l, h => absorbAll l (h.set id b)

def putT (tm : T AV) (nt : Nat) (d : Option Tmp) (v : AV) : Option (T AV) :=
  match d with
  | none => some tm
  | some t => cond (Nat.blt t nt) (some (tm.set t v)) none

/-- An operation of a region that draws that acts, in its order. -/
def actD (C : Cfg) (rc : RC) (o : Oper) (h : T AB) (nx : Nat) (tm : T AV) : Option (AV × T AB × Nat) :=
  match kindOf C.P o with
  | .eff => eop C.P C.G h nx tm o
  | .call => match o.op with
    | .call c => match whoA C.G tm c with
      | some (.func f args) => funcA C rc f args h nx
      | _ => none
    | _ => none
  | _ => none

/-- One operation of a region that draws; w: it is wanted. -/
def drawStep (C : Cfg) (rc : RC) (b : Array Nat) (nt nx0 : Nat) (o : Oper) (i : Nat) (w : Bool) (d : Ds) : Option Ds :=
  match kindOf C.P o with
  | .quiet => match w with
    | false => match putT d.tm nt o.dst (.tuple []) with
      | some tm => some { d with tm }
      | none => none
    | true => match qop C.P C.G (cond (reads C.P o) d.hp .leaf) d.tm o with
      | none => none
      | some v => match putT d.tm nt o.dst v with
        | none => none
        | some tm => some { d with tm, rs := cond (reads C.P o) ({ i, o, tm := d.tm, v } :: d.rs) d.rs }
  | .alloc => match w with
    | false => match putT d.tm nt o.dst (.tuple []) with
      | some tm => some { d with tm, al := d.al + 1 }
      | none => none
    | true => match lop C.P C.G d.tm o with
      | none => none
      | some (bl, m) => match putT d.tm nt o.dst (m.val (nx0 + d.al)) with
        | none => none
        | some tm => some { d with tm, al := d.al + 1, fl := (i, nx0 + d.al, bl) :: d.fl }
  | _ => match w with
    | false => match putT d.tm nt o.dst (.tuple []) with
      | some tm => some { d with tm, hs := (d.hp, i) :: d.hs }
      | none => none
    | true => match actD C rc o (absorbH (b.getD i 0) d.fl d.hp) d.nx d.tm with
      | none => none
      | some (v, h2, nx) => match putT d.tm nt o.dst v with
        | none => none
        | some tm => some { d with tm, hp := h2, nx, hs := (d.hp, i) :: d.hs, fl := absorbF (b.getD i 0) d.fl }

def drawA (C : Cfg) (rc : RC) (ops : Array Oper) (b : Array Nat) (nt nx0 : Nat) : List Oper → Nat → Ds → Option Ds
  | [], _, d => some d
  | o :: l, i, d => match wantedA ops d.tm o with
    | none => none
    | some w => match drawStep C rc b nt nx0 o i w d with
      | some d' => drawA C rc ops b nt nx0 l (i + 1) d'
      | none => none

/-- May the operation stand between these two effects? Then it says what it said. -/
def chk (C : Cfg) (b : Array Nat) (r : Rec) (prev next : Option Nat) (h : T AB) : Bool :=
  (match prev with
   | some e => Nat.testBit (b.getD e 0) r.i
   | none => false) ||
  (match next with
   | some e => Nat.testBit (b.getD r.i 0) e
   | none => false) ||
  (match qop C.P C.G h r.tm r.o with
   | some v => AV.beq v r.v
   | none => false)

def recOk (C : Cfg) (b : Array Nat) (r : Rec) : Option Nat → T AB → List (T AB × Nat) → Bool
  | next, h, [] => chk C b r none next h
  | next, h, (h', e) :: l => chk C b r (some e) next h && recOk C b r (some e) h' l

/-- What is asked of a region's text: its edges go back; each temporary's writers and readers stand in order; so do the effects. -/
def drawOk (P : Program) (ops : Array Oper) : Bool :=
  let b := Region.before ops
  let ix := ops.toList.zipIdx
  (ix.all fun (o, i) => o.after.toList.all fun e => !Region.binds .any e || Nat.blt e.on i) &&
  ((ix.all fun (o, i) => match o.dst with
    | none => true
    | some t => ix.all fun (q, j) => Nat.beq i j ||
        (!((match q.dst with
           | some u => Nat.beq u t
           | none => false) || (q.looksAt ops).contains t) ||
        cond (Nat.blt i j) (Nat.testBit (b.getD j 0) i) (Nat.testBit (b.getD i 0) j))) &&
  (ix.all fun (o, i) => !effD P o || ix.all fun (q, j) => !effD P q || (!Nat.blt i j || Nat.testBit (b.getD j 0) i)))

def regionDrawA (C : Cfg) (rc : RC) (ops : Array Oper) (s : Fs) : Option Fs :=
  match drawOk C.P ops with
  | false => none
  | true =>
    match drawA C rc ops (Region.before ops) s.nt s.nx ops.toList 0 { tm := s.tm, hp := s.hp, nx := s.nx + allocsOf C.P ops, hs := [], fl := [], al := 0, rs := [] } with
    | none => none
    | some d => match d.rs.all fun r => recOk C (Region.before ops) r none d.hp d.hs with
      | false => none
      | true => some { s with tm := d.tm, hp := absorbAll d.fl d.hp, nx := d.nx }

/-! ### code -/

/-- The block for the rounds' deferred calls: a new one, or the one of the loop around. -/
def aroundA (rd : Option Nat) (s : Fs) : Option (Nat × T AB × Nat × List AD) :=
  match rd with
  | none => some (s.nx, s.hp.set s.nx .deferred, s.nx + 1, [.mark s.nx])
  | some l0 => match s.hp.get l0 with
    | some (.loop al) => some (al.defers, s.hp, s.nx, [])
    | _ => none


def codeA (C : Cfg) (rc : RC) (rl : RL) (rr : Code → Option Nat → Nat → Fs → Option (AX × Fs)) (rd : Option Nat) (cf : FuncId) : Code → Fs → Option (AX × Fs)
  | .skip, s => some (.normal, s)
  | .region _ ops draw, s => match draw with
    | false => match opsA C rc rr ops cf rd ops.toList s with
      | some s' => some (.normal, s')
      | none => none
    | true => match regionDrawA C rc ops s with
      | some s' => some (.normal, s')
      | none => none
  | .seq a b, s => match codeA C rc rl rr rd cf a s with
    | some (.normal, s') => codeA C rc rl rr rd cf b s'
    | r => r
  | .cond c a b, s => match opnd C.G s.tm c with
    | some (.bool true) => codeA C rc rl rr rd cf a s
    | some (.bool false) => codeA C rc rl rr rd cf b s
    | _ => none
  | .block id b, s => match codeA C rc rl rr rd cf b s with
    | some (.exit i, s') => cond (Nat.beq i id) (some (.normal, s')) (some (.exit i, s'))
    | r => r
  | .loop b, s => match codeA C rc rl rr rd cf b s with
    | some (.normal, s') => rl b rd cf s'
    | r => r
  | .rangeFunc g ps asg body, s => match opnd C.G s.tm g with
    | some (.func f [] cs) => match C.P.funcs[f]? with
      | some fn => match fn.body with
        | some _ => match aroundA rd s with
          | some (dfr, h0, l, mk) =>
            match rc f (.yield l :: cs)
              (h0.set l (.loop { state := .ready, pending := none, fn := cf, tm := s.tm, ntm := s.nt, params := ps, assign := asg, body, defers := dfr })) (l + 1) with
            | some (_, h, nx) => match h.get l with
              | some (.loop al) => match al.state with
                | .busy => none
                | _ => match al.pending with
                  | none => some (.normal, { s with hp := h.set l (.loop { al with state := .exhausted }), nx := nx, df := mk ++ s.df })
                  | some .ret => some (.ret, { s with hp := h.set l (.loop { al with state := .exhausted }), nx := nx, df := mk ++ s.df })
                  | some (.exit id) => some (.exit id, { s with hp := h.set l (.loop { al with state := .exhausted }), nx := nx, df := mk ++ s.df })
                  | _ => none
              | _ => none
            | none => none
          | none => none
        | none => none
      | none => none
    | _ => none
  | .exit id, s => some (.exit id, s)
  | .ret, s => some (.ret, s)
  | _, _ => none

def defersA (C : Cfg) (rc : RC) : List AD → T AB → Nat → Option (T AB × Nat)
  | [], h, nx => some (h, nx)
  | .call f args :: l, h, nx => match rc f args h nx with
    | some (_, h', nx') => defersA C rc l h' nx'
    | none => none
  | .mark r :: l, h, nx => match h.get r with
    | some .deferred => defersA C rc l (h.del r) nx
    | _ => none

def resultsA (P : Program) (h : T AB) (tm : T AV) : List ResultVar → Option (List AV)
  | [] => some []
  | .tmp t :: l => match tm.get t with
    | some v => match resultsA P h tm l with
      | some vs => some (v :: vs)
      | none => none
    | none => none
  | .cell a t :: l => match tm.get a with
    | some x => match loadA P h t x with
      | some v => match resultsA P h tm l with
        | some vs => some (v :: vs)
        | none => none
      | none => none
    | none => none

def callA (C : Cfg) (pl : Bool) (rc rd : RC) (rl : RL) (rr : Code → Option Nat → Nat → Fs → Option (AX × Fs)) (f : FuncId) (args : List AV) (h : T AB) (nx : Nat) : Option (AV × T AB × Nat) :=
  match C.P.funcs[f]? with
  | some fn => match fn.body with
    | some c => match codeA C rc rl rr none f c { tm := T.ofList .leaf 0 args, nt := max args.length fn.ntmps, df := [], hp := h, nx } with
      | some (.exit _, _) => none
      | some (_, s) => match cond (pl && !s.df.isEmpty) none (defersA C rd s.df s.hp s.nx) with
        | some (h', nx') => match resultsA C.P h' s.tm fn.results.toList with
          | some [v] => some (v, h', nx')
          | some vs => some (.tuple vs, h', nx')
          | none => none
        | none => none
      | none => none
    | none => none
  | none => none

inductive Task where
  | call (f : FuncId) (args : List AV) (h : T AB) (nx : Nat)
  | dcall (f : FuncId) (args : List AV) (h : T AB) (nx : Nat)
  | loop (c : Code) (rd : Option Nat) (cf : FuncId) (s : Fs)
  | code (c : Code) (rd : Option Nat) (cf : FuncId) (s : Fs)

inductive Out where
  | call (v : AV) (h : T AB) (nx : Nat)
  | code (x : AX) (s : Fs)

def toRC (r : Task → Option Out) : RC := fun f args h nx => match r (.call f args h nx) with
  | some (.call v h nx) => some (v, h, nx)
  | _ => none
def toRD (r : Task → Option Out) : RC := fun f args h nx => match r (.dcall f args h nx) with
  | some (.call v h nx) => some (v, h, nx)
  | _ => none
def toRL (r : Task → Option Out) : RL := fun c rd cf s => match r (.loop c rd cf s) with
  | some (.code x s) => some (x, s)
  | _ => none
def toRR (r : Task → Option Out) : RL := fun c rd cf s => match r (.code c rd cf s) with
  | some (.code x s) => some (x, s)
  | _ => none

def taskA (C : Cfg) (r : Task → Option Out) : Task → Option Out
  | .call f args h nx => match callA C false (toRC r) (toRD r) (toRL r) (toRR r) f args h nx with
    | some (v, h, nx) => some (.call v h nx)
    | none => none
  | .dcall f args h nx => match callA C true (toRC r) (toRD r) (toRL r) (toRR r) f args h nx with
    | some (v, h, nx) => some (.call v h nx)
    | none => none
  | .loop c rd cf s => match codeA C (toRC r) (toRL r) (toRR r) rd cf (.loop c) s with
    | some (x, s) => some (.code x s)
    | none => none
  | .code c rd cf s => match codeA C (toRC r) (toRL r) (toRR r) rd cf c s with
    | some (x, s) => some (.code x s)
    | none => none

def run (C : Cfg) : Nat → Task → Option Out
  | 0, _ => none
  | n + 1, t => taskA C (run C n) t

end Go.Abs
