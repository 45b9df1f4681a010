/-
  THE QUICK EVALUATOR is right. (The conditions stand in the row and the card that are given.) Written by an AI agent for this claim.
-/
import Derived.Test.YtbbpbklbmoeocaaGreatDoorEvF
import Derived.Test.YtbbpbklbmoeocaaGreatDoorEvE
set_option linter.unusedVariables false
set_option linter.unusedSimpArgs false
namespace Go.Abs.F
open Go Go.Abs

section
variable {C : Cfg}

theorem gOf_yes {want : Bool} {v : AV} (e : gOf want (asBool v) = .yes) : ∃ b, v = .bool b ∧ cond b want (!want) = true := by
  cases hv : asBool v with
  | no => rw [hv] at e; cases e
  | t =>
    rw [hv] at e
    cases want with
    | false => cases e
    | true => exact ⟨true, asBool_t hv, rfl⟩
  | f =>
    rw [hv] at e
    cases want with
    | true => cases e
    | false => exact ⟨false, asBool_f hv, rfl⟩
theorem gOf_not {want : Bool} {v : AV} (e : gOf want (asBool v) = .not) : ∃ b, v = .bool b ∧ cond b want (!want) = false := by
  cases hv : asBool v with
  | no => rw [hv] at e; cases e
  | t =>
    rw [hv] at e
    cases want with
    | true => cases e
    | false => exact ⟨true, asBool_t hv, rfl⟩
  | f =>
    rw [hv] at e
    cases want with
    | false => cases e
    | true => exact ⟨false, asBool_f hv, rfl⟩
theorem gOf_other {want : Bool} {v : AV} (e : gOf want (asBool v) = .other) : ∀ b, v ≠ .bool b := by
  intro b hb
  subst hb
  cases b <;> cases want <;> cases e
theorem gOf_no {want : Bool} {b : BV} (e : gOf want b = .no) : False := by
  cases b <;> cases want <;> cases e

/-- What a guard says of a temporary. -/
def wantV (want : Bool) (v : AV) : Bool := match v with
  | .bool b => cond b want (!want)
  | _ => false
theorem gOf_want (want : Bool) (v : AV) : gOf want (asBool v) = .yes ∧ wantV want v = true ∨ (gOf want (asBool v) = .not ∨ gOf want (asBool v) = .other) ∧ wantV want v = false := by
  cases hg : gOf want (asBool v) with
  | no => exact (gOf_no hg).elim
  | yes => obtain ⟨b, rfl, h⟩ := gOf_yes hg; exact .inl ⟨rfl, h⟩
  | not => obtain ⟨b, rfl, h⟩ := gOf_not hg; exact .inr ⟨.inl rfl, h⟩
  | other =>
    refine .inr ⟨.inr rfl, ?_⟩
    have := gOf_other hg
    cases v <;> first | rfl | exact absurd rfl (this _)
theorem wantedA_some {ops : Array Oper} {tm : T AV} {o q : Oper} {j : Nat} {want : Bool} {d : Tmp} {v : AV} (hg : o.guard = some (j, want)) (hq : ops[j]? = some q) (hd : q.dst = some d) (hv : tm.get d = some v) :
    wantedA ops tm o = some (wantV want v) := by
  simp only [wantedA, hg, hq, hd, hv, wantV]
  cases v <;> rfl

section
variable {ops : Array Oper} {o : Oper} {yes not : Cl} {u : Fu} {tm : T AV} {h : T AB} {nx : Nat} {df : DF} {r : R}

theorem wantF_inv (hr : r ≠ .no) (e : ap (wantF ops o yes not) u tm h nx df = r) :
    (wantedA ops tm o = some true ∧ ap yes u tm h nx df = r) ∨ (wantedA ops tm o = some false ∧ ap not u tm h nx df = r) := by
  unfold wantF at e
  split at e
  · rename_i hg
    exact .inl ⟨by simp only [wantedA, hg], e⟩
  · rename_i j want hg
    split at e
    · rename_i q hq
      split at e
      · rename_i d hd
        obtain ⟨r1, e1, h1⟩ := rTmp_ok d
        simp only [guardF, e1] at e
        replace e : guardK r1 want yes not u tm h nx df = r := e
        unfold guardK at e
        obtain ⟨v, hv, e⟩ := oinv hr e
        rw [h1] at hv
        rw [wantedA_some hg hq hd hv]
        rcases gOf_want want v with ⟨h1, h2⟩ | ⟨h1 | h1, h2⟩
        · rw [h1] at e; rw [h2]; exact .inl ⟨rfl, e⟩
        · rw [h1] at e; rw [h2]; exact .inr ⟨rfl, e⟩
        · rw [h1] at e; rw [h2]; exact .inr ⟨rfl, e⟩
      · exact (fail_inv hr e).elim
    · exact (fail_inv hr e).elim

theorem skipF_inv {nt : Nat} {d : Option Tmp} {k : Cl} (hr : r ≠ .no) (e : ap (skipF nt d k) u tm h nx df = r) : dstOk nt d = true ∧ ap k u (put1 d (.tuple []) tm) h nx df = r := by
  unfold skipF at e
  split at e
  · exact (fail_inv hr e).elim
  · rename_i hd
    obtain ⟨w, e2, h2⟩ := wrOf_ok d
    simp only [e2] at e
    replace e : skipK w k u tm h nx df = r := e
    unfold skipK at e
    rw [h2] at e
    exact ⟨hd, e⟩
end

theorem DF.upd_upd {d d' : DF} {l : List AD} (h : d.upd l = some d') (x : List AD) : d'.upd x = d.upd x := by
  cases d with
  | fn m => injection h with h; subst h; rfl
  | round r => cases l with
    | nil => injection h with h; subst h; rfl
    | cons a l => cases h

theorem opsF_ok {nt : Nat} {cf : FuncId} {ops : Array Oper} {k : Cl} {u : Fu} {r : R} (hr : r ≠ .no) : ∀ (l : List Oper) (tm : T AV) (h : T AB) (nx : Nat) (df : DF), ap (opsF C nt cf ops l k) u tm h nx df = r →
    ∃ s' d', opsA C (rcOf u) (rrOf u) ops cf df.rd l ⟨tm, nt, df.df, h, nx⟩ = some s' ∧ s'.nt = nt ∧ df.upd s'.df = some d' ∧ ap k u s'.tm s'.hp s'.nx d' = r := by
  intro l
  induction l with
  | nil => intro tm h nx df e; exact ⟨_, df, rfl, rfl, DF.upd_self _, e⟩
  | cons o l ih =>
    intro tm h nx df e
    replace e : ap (wantF ops o (opF C nt cf o (opsF C nt cf ops l k)) (skipF nt o.dst (opsF C nt cf ops l k))) u tm h nx df = r := e
    rcases wantF_inv hr e with ⟨hw, e⟩ | ⟨hw, e⟩
    · obtain ⟨s1, d1, h1, h2, h3, h4, h5⟩ := opF_ok hr e
      obtain ⟨hd1, hd2⟩ := DF.upd_ok h3
      obtain ⟨s2, d2, k1, k2, k3, k4⟩ := ih s1.tm s1.hp s1.nx d1 h5
      refine ⟨s2, d2, ?_, k2, by rw [← DF.upd_upd h3]; exact k3, k4⟩
      unfold opsA
      simp only [hw, h1]
      have hs1 : s1 = ⟨s1.tm, nt, d1.df, s1.hp, s1.nx⟩ := by rw [hd1, ← h2]
      have k1' : opsA C (rcOf u) (rrOf u) ops cf df.rd l s1 = some s2 := by rw [hs1, ← hd2]; exact k1
      split
      · rename_i hrd ho
        rw [h4 _ ho] at hrd; cases hrd
      · exact k1'
    · obtain ⟨hd, e⟩ := skipF_inv hr e
      obtain ⟨s2, d2, k1, k2, k3, k4⟩ := ih _ h nx df e
      refine ⟨s2, d2, ?_, k2, k3, k4⟩
      unfold opsA
      simp only [hw, putD_ok (s := ⟨tm, nt, df.df, h, nx⟩) hd]
      exact k1

/-! ### regions that draw -/

theorem bitF_eq (m t : Nat) : bitF m t = m.testBit t := by
  have : (m >>> t) &&& 1 = m / 2 ^ t % 2 := by rw [Nat.shiftRight_eq_div_pow, Nat.and_one_is_mod]
  show Nat.beq ((m >>> t) &&& 1) 1 = _
  rw [this, Nat.testBit_eq_decide_div_mod_eq]
  rcases Nat.mod_two_eq_zero_or_one (m / 2 ^ t) with h | h <;> rw [h] <;> rfl

theorem orF_eq (a b : Bool) : orF a b = (a || b) := by cases a <;> rfl

theorem vOf_ok (o : Oper) : ∃ f, vOf C o = .mk f ∧ ∀ h tm v, f h tm = some v → qop C.P C.G h tm o = some v := by
  have one : ∀ {g : AV → T AB → Option AV} {x : Operand}, ∃ f, vOne C (.mk g) x = .mk f ∧ ∀ h tm v, f h tm = some v → ∃ a, opnd C.G tm x = some a ∧ g a h = some v := by
    intro g x
    obtain ⟨r1, e1, h1⟩ := rdO_ok C.G x
    refine ⟨_, by simp only [vOne, e1]; rfl, fun h tm v e => ?_⟩
    rw [h1] at e
    cases hx : opnd C.G tm x with
    | none => rw [hx] at e; cases e
    | some a => rw [hx] at e; exact ⟨a, rfl, e⟩
  have two : ∀ {g : AV → AV → T AB → Option AV} {x y : Operand}, ∃ f, vTwo C (.mk g) x y = .mk f ∧ ∀ h tm v, f h tm = some v → ∃ a b, opnd C.G tm x = some a ∧ opnd C.G tm y = some b ∧ g a b h = some v := by
    intro g x y
    obtain ⟨r1, e1, h1⟩ := rdO_ok C.G x
    obtain ⟨r2, e2, h2⟩ := rdO_ok C.G y
    refine ⟨_, by simp only [vTwo, e1, e2]; rfl, fun h tm v e => ?_⟩
    rw [h1, h2] at e
    cases hx : opnd C.G tm x with
    | none => rw [hx] at e; cases e
    | some a =>
      cases hy : opnd C.G tm y with
      | none => rw [hx, hy] at e; cases e
      | some b => rw [hx, hy] at e; exact ⟨a, b, rfl, rfl, e⟩
  have mv : ∀ {x : Operand}, ∃ f, vMove C x = .mk f ∧ ∀ (h : T AB) tm v, f h tm = some v → opnd C.G tm x = some v := by
    intro x
    obtain ⟨r1, e1, h1⟩ := rdO_ok C.G x
    exact ⟨_, by simp only [vMove, e1]; rfl, fun h tm v e => by rw [← h1]; exact e⟩
  unfold vOf
  split
  case h_1 x ho =>
    obtain ⟨f, e1, h1⟩ := mv (x := x)
    exact ⟨f, e1, fun h tm v e => by simp only [qop, ho]; exact h1 h tm v e⟩
  case h_2 x ho =>
    obtain ⟨f, e1, h1⟩ := mv (x := x)
    exact ⟨f, e1, fun h tm v e => by simp only [qop, ho]; exact h1 h tm v e⟩
  case h_3 t a ho =>
    obtain ⟨g, eg, hg⟩ := loadG_ok C.P t
    rw [eg]
    obtain ⟨f, e1, h1⟩ := one (g := g) (x := a)
    exact ⟨f, e1, fun h tm v e => by obtain ⟨a, ha, hv⟩ := h1 h tm v e; simp only [qop, ho, ha]; exact hg hv⟩
  case h_4 x ho =>
    obtain ⟨f, e1, h1⟩ := one (g := nilW) (x := x)
    refine ⟨f, e1, fun h tm v e => ?_⟩
    obtain ⟨a, ha, hv⟩ := h1 h tm v e
    obtain ⟨n1, n2, n3, rfl⟩ := nilW_ok hv
    simp only [qop, ho, ha]
  case h_5 op t x y yt ho =>
    obtain ⟨g, eg, hg⟩ := binOf_ok C.P (Region.isConst x || Region.isConst y) op t
    obtain ⟨r1, e1, h1⟩ := rdO_ok C.G x
    obtain ⟨r2, e2, h2⟩ := rdO_ok C.G y
    refine ⟨_, by simp only [vBin, eg, e1, e2]; rfl, fun h tm v e => ?_⟩
    rw [h1, h2] at e
    simp only [qop, ho]
    cases hx : opnd C.G tm x with
    | none => rw [hx] at e; cases e
    | some a =>
      cases hy : opnd C.G tm y with
      | none => rw [hx, hy] at e; cases e
      | some b => rw [hx, hy] at e; exact (hg a b).symm.trans e
  case h_6 op t x ho =>
    obtain ⟨g, eg, hg⟩ := unOf_ok op
    rw [eg]
    obtain ⟨f, e1, h1⟩ := one (g := g) (x := x)
    exact ⟨f, e1, fun h tm v e => by obtain ⟨a, ha, hv⟩ := h1 h tm v e; simp only [qop, ho, ha]; exact hg hv⟩
  case h_7 s x f ho =>
    obtain ⟨g, eg, hg⟩ := faG_ok C.P s f
    rw [eg]
    obtain ⟨f, e1, h1⟩ := one (g := g) (x := x)
    exact ⟨f, e1, fun h tm v e => by obtain ⟨a, ha, hv⟩ := h1 h tm v e; simp only [qop, ho, ha]; exact hg hv⟩
  case h_8 t x i ho =>
    obtain ⟨g, eg, hg⟩ := ixG_ok C.P t
    rw [eg]
    obtain ⟨f, e1, h1⟩ := two (g := g) (x := x) (y := i)
    exact ⟨f, e1, fun h tm v e => by obtain ⟨a, b, ha, hb, hv⟩ := h1 h tm v e; simp only [qop, ho, ha, hb]; exact hg hv⟩
  case h_9 x i ho =>
    obtain ⟨f, e1, h1⟩ := one (g := exV i) (x := x)
    refine ⟨f, e1, fun h tm v e => ?_⟩
    obtain ⟨a, ha, hv⟩ := h1 h tm v e
    obtain ⟨l, rfl, hl⟩ := exV_inv hv
    simp only [qop, ho, ha]; exact hl
  case h_10 => exact ⟨_, rfl, fun h tm v e => e⟩

theorem aOf_ok (o : Oper) : ∃ g, aOf C o = .mk g ∧ ∀ tm p, g tm = some p → lop C.P C.G tm o = some p := by
  unfold aOf
  split
  · rename_i t ho
    cases hb : allocOf C.P t with
    | none => exact ⟨_, rfl, fun tm p e => e⟩
    | some b => exact ⟨_, rfl, fun tm p e => by injection e with e; subst e; exact allocOf_ok ho hb⟩
  · rename_i t x ho
    obtain ⟨r1, e1, h1⟩ := rdO_ok C.G x
    refine ⟨_, by simp only [e1]; rfl, fun tm p e => ?_⟩
    unfold aBox at e
    rw [h1] at e
    cases hx : opnd C.G tm x with
    | none => rw [hx] at e; cases e
    | some v =>
      rw [hx] at e
      replace e : Option.rec (motive := fun _ => Option (AB × Mk)) none (fun b => some (b, .ptr)) (boxW t v) = some p := e
      rw [boxW_eq] at e
      cases hb : boxV t v with
      | none => rw [hb] at e; cases e
      | some b => rw [hb] at e; injection e with e; subst e; exact boxV_ok ho hx hb
  · exact ⟨_, rfl, fun tm p e => e⟩

theorem eOf_ok (o : Oper) : ∃ g, eOf C o = .mk g ∧ ∀ u h nx tm p, g u h nx tm = some p → actD C (rcOf u) o h nx tm = some p := by
  unfold eOf
  split
  · rename_i t a x ho
    obtain ⟨g, e0, h0⟩ := stG_ok C.P t
    obtain ⟨r1, e1, h1⟩ := rdO_ok C.G a
    obtain ⟨r2, e3, h3⟩ := rdO_ok C.G x
    refine ⟨_, by simp only [e0, e1, e3]; rfl, fun u h nx tm p e => ?_⟩
    unfold eStore at e
    rw [h1, h3] at e
    have hk : kindOf C.P o = .eff := by simp only [kindOf, ho]
    simp only [actD, hk, eop, ho]
    cases ha : opnd C.G tm a with
    | none => rw [ha] at e; cases e
    | some va =>
      cases hx : opnd C.G tm x with
      | none => rw [ha, hx] at e; cases e
      | some vx =>
        rw [ha, hx] at e
        replace e : Option.rec (motive := fun _ => Option (AV × T AB × Nat)) none (fun h => some (.tuple [], h, nx)) (g va vx h) = some p := e
        cases hg : g va vx h with
        | none => rw [hg] at e; cases e
        | some h' => rw [hg] at e; simp only [h0 hg]; exact e
  · rename_i c ho
    split
    · rename_i f hc
      cases hf : fkOf C f with
      | body =>
        obtain ⟨rs, e1, h1⟩ := rdsOf_ok C.G c.args.toList
        refine ⟨_, by simp only [e1]; rfl, fun u h nx tm p e => ?_⟩
        unfold eCall at e
        rw [h1] at e
        have hk : kindOf C.P o = .call := by simp only [kindOf, ho, hc]
        cases ha : opnds C.G tm c.args.toList with
        | none => rw [ha] at e; cases e
        | some args =>
          rw [ha] at e
          have hw : whoA C.G tm c = some (.func f args) := by simp only [whoA, hc, opnd, ha, List.nil_append, List.append_nil]
          simp only [actD, hk, ho, hw]
          rw [fkOf_body hf]; exact e
      | ext ek => exact ⟨_, rfl, fun u h nx tm p e => e⟩
      | bad => exact ⟨_, rfl, fun u h nx tm p e => e⟩
    · exact ⟨_, rfl, fun u h nx tm p e => e⟩
  · exact ⟨_, rfl, fun u h nx tm p e => e⟩

end
end Go.Abs.F

namespace Go.Abs.F
open Go Go.Abs

section
variable {C : Cfg}

theorem dinv {k : Dl} {u : Fu} {tm : T AV} {h : T AB} {nx : Nat} {df : DF} {n0 : Nat} {hs : List (T AB)} {fl : List (Nat × Nat × AB)} {rs : List Rc} :
    Dl.rec (motive := fun _ => R) (fun f => f u tm h nx df n0 hs fl rs) k = ad k u tm h nx df n0 hs fl rs := rfl

/-- A record, quick and plain. -/
def RecR (C : Cfg) (b : Array Nat) (effs : List Nat) : Rc → Rec → Prop
  | .mk ns f tm v, r => ns = needsL b r.i effs none ∧ tm = r.tm ∧ v = r.v ∧ ∀ h w, f h tm = some w → qop C.P C.G h r.tm r.o = some w
def RecsR (C : Cfg) (b : Array Nat) (effs : List Nat) : List Rc → List Rec → Prop
  | [], [] => True
  | x :: l, r :: m => RecR C b effs x r ∧ RecsR C b effs l m
  | _, _ => False

theorem nn {b : Bool} (h : (!b) = false) : b = true := by cases b <;> first | rfl | cases h
theorem need_ok (b : Array Nat) (i : Nat) (p q : Option Nat) : need b i p q = !((match p with
      | some e => Nat.testBit (b.getD e 0) i
      | none => false) ||
     (match q with
      | some e => Nat.testBit (b.getD i 0) e
      | none => false)) := by
  unfold need
  rw [notF_eq, orF_eq]
  cases p with
  | none => cases q with
    | none => rfl
    | some e => show (!(false || bitF (b.getD i 0) e)) = _; rw [bitF_eq]
  | some d => cases q with
    | none => show (!(bitF (b.getD d 0) i || false)) = _; rw [bitF_eq]
    | some e => show (!(bitF (b.getD d 0) i || bitF (b.getD i 0) e)) = _; rw [bitF_eq, bitF_eq]

theorem chkF_ok {b : Array Nat} {r : Rec} {f : T AB → T AV → Option AV} {tm : T AV} {v : AV} {p q : Option Nat} {h : T AB} (ht : tm = r.tm) (hv : v = r.v)
    (hf : ∀ h w, f h tm = some w → qop C.P C.G h r.tm r.o = some w) (e : chkF f tm v (need b r.i p q) h = true) : chk C b r p q h = true := by
  unfold chk
  cases hn : need b r.i p q with
  | false =>
    rw [need_ok] at hn
    rw [Bool.or_eq_true]
    exact .inl (nn hn)
  | true =>
    rw [hn] at e
    replace e : Option.rec (motive := fun _ => Bool) false (fun w => AV.beq w v) (f h tm) = true := e
    cases hq : f h tm with
    | none => rw [hq] at e; cases e
    | some w =>
      rw [hq] at e
      replace e : AV.beq w v = true := e
      rw [hv] at e
      simp only [hf h w hq, e, Bool.or_true]

theorem recF_ok {b : Array Nat} {r : Rec} {f : T AB → T AV → Option AV} {tm : T AV} {v : AV} (ht : tm = r.tm) (hv : v = r.v)
    (hf : ∀ h w, f h tm = some w → qop C.P C.G h r.tm r.o = some w) : ∀ (hs : List (T AB × Nat)) (h : T AB) (q : Option Nat),
    recF f tm v (needsL b r.i (hs.map (·.2)) q) (h :: hs.map (·.1)) = true → recOk C b r q h hs = true := by
  intro hs
  induction hs with
  | nil =>
    intro h q e
    replace e : andF (chkF f tm v (need b r.i none q) h) true = true := e
    rw [andF_eq, Bool.and_true] at e
    exact chkF_ok ht hv hf e
  | cons x hs ih =>
    intro h q e
    obtain ⟨h', i⟩ := x
    replace e : andF (chkF f tm v (need b r.i (some i) q) h) (recF f tm v (needsL b r.i (hs.map (·.2)) (some i)) (h' :: hs.map (·.1))) = true := e
    rw [andF_eq, Bool.and_eq_true] at e
    simp only [recOk, chkF_ok ht hv hf e.1, ih _ _ e.2, Bool.and_self]

theorem allRecs_ok {b : Array Nat} {h : T AB} {hs : List (T AB × Nat)} : ∀ (rs : List Rc) (m : List Rec), RecsR C b (hs.map (·.2)) rs m → allRecs (h :: hs.map (·.1)) rs = true →
    (m.all fun r => recOk C b r none h hs) = true := by
  intro rs
  induction rs with
  | nil => intro m hm e; cases m with
    | nil => rfl
    | cons r m => exact hm.elim
  | cons x rs ih =>
    intro m hm e
    cases m with
    | nil => exact hm.elim
    | cons r m =>
      obtain ⟨ns, f, tm, v⟩ := x
      obtain ⟨⟨h1, h2, h3, h4⟩, h5⟩ := hm
      subst h1
      replace e : andF (recF f tm v (needsL b r.i (hs.map (·.2)) none) (h :: hs.map (·.1))) (allRecs (h :: hs.map (·.1)) rs) = true := e
      rw [andF_eq, Bool.and_eq_true] at e
      simp only [List.all_cons, recF_ok h2 h3 h4 _ _ _ e.1, ih m h5 e.2, Bool.and_self]

/-! ### the operations of a region, one behind the other -/

theorem dfail_inv {r : R} {u : Fu} {tm : T AV} {h : T AB} {nx : Nat} {df : DF} {n0 : Nat} {hs : List (T AB)} {fl : List (Nat × Nat × AB)} {rs : List Rc} (hr : r ≠ .no) (e : ad dfail u tm h nx df n0 hs fl rs = r) : False := hr e.symm

theorem dWant_inv {ops : Array Oper} {o : Oper} {yes not : Dl} {r : R} {u : Fu} {tm : T AV} {h : T AB} {nx : Nat} {df : DF} {n0 : Nat} {hs : List (T AB)} {fl : List (Nat × Nat × AB)} {rs : List Rc} (hr : r ≠ .no)
    (e : ad (dWant ops o yes not) u tm h nx df n0 hs fl rs = r) :
    (wantedA ops tm o = some true ∧ ad yes u tm h nx df n0 hs fl rs = r) ∨ (wantedA ops tm o = some false ∧ ad not u tm h nx df n0 hs fl rs = r) := by
  unfold dWant at e
  split at e
  · rename_i hg
    exact .inl ⟨by simp only [wantedA, hg], e⟩
  · rename_i j want hg
    split at e
    · rename_i q hq
      split at e
      · rename_i d hd
        obtain ⟨r1, e1, h1⟩ := rTmp_ok d
        simp only [e1] at e
        replace e : dGuard r1 want yes not u tm h nx df n0 hs fl rs = r := e
        unfold dGuard at e
        obtain ⟨v, hv, e⟩ := oinv hr e
        rw [h1] at hv
        rw [wantedA_some hg hq hd hv]
        rcases gOf_want want v with ⟨h1, h2⟩ | ⟨h1 | h1, h2⟩
        · rw [h1] at e; rw [h2]; exact .inl ⟨rfl, e⟩
        · rw [h1] at e; rw [h2]; exact .inr ⟨rfl, e⟩
        · rw [h1] at e; rw [h2]; exact .inr ⟨rfl, e⟩
      · exact (dfail_inv hr e).elim
    · exact (dfail_inv hr e).elim

/-- The static effects and the trace's. -/
def nextEff (P : Program) (o : Oper) (i : Nat) (acc : List Nat) : List Nat := match kindOf P o with
  | .quiet => acc
  | .alloc => acc
  | _ => i :: acc
theorem effsOf_cons (P : Program) (o : Oper) (l : List Oper) (i : Nat) (acc : List Nat) : effsOf P (o :: l) i acc = effsOf P l (i + 1) (nextEff P o i acc) := rfl

section
variable {b : Array Nat} {effs : List Nat} {nt n0 : Nat} {o : Oper} {i : Nat} {k : Dl} {u : Fu} {df : DF} {r : R} {d : Ds} {rs : List Rc}

/-- What is shown of one operation. -/
def DOk (C : Cfg) (b : Array Nat) (effs : List Nat) (nt n0 : Nat) (o : Oper) (i : Nat) (w : Bool) (k : Dl) (u : Fu) (df : DF) (r : R) (d : Ds) : Prop :=
  ∃ d' rs', drawStep C (rcOf u) b nt n0 o i w d = some d' ∧ RecsR C b effs rs' d'.rs ∧ d'.al = nextAl C.P o d.al ∧ d'.hs.map (·.2) = nextEff C.P o i (d.hs.map (·.2)) ∧
    ad k u d'.tm d'.hp d'.nx df n0 (d'.hs.map (·.1)) d'.fl rs' = r

theorem dOp_ok (hr : r ≠ .no) (hrs : RecsR C b effs rs d.rs) (e : ad (dOp C nt b effs o i d.al k) u d.tm d.hp d.nx df n0 (d.hs.map (·.1)) d.fl rs = r) : DOk C b effs nt n0 o i true k u df r d := by
  unfold dOp at e
  split at e
  · exact (dfail_inv hr e).elim
  rename_i hd
  obtain ⟨w, e2, h2⟩ := wrOf_ok o.dst
  simp only [e2] at e
  split at e
  · rename_i hk
    obtain ⟨f, ef, hf⟩ := vOf_ok (C := C) o
    split at e
    · rename_i hrd
      simp only [ef] at e
      replace e : dRead (needsL b i effs none) f w k u d.tm d.hp d.nx df n0 (d.hs.map (·.1)) d.fl rs = r := e
      unfold dRead at e
      obtain ⟨v, hv, e⟩ := oinv hr e
      rw [h2] at e
      refine ⟨{ d with tm := put1 o.dst v d.tm, rs := { i, o, tm := d.tm, v } :: d.rs }, .mk (needsL b i effs none) f d.tm v :: rs, ?_, ⟨⟨rfl, rfl, rfl, fun h w hw => hf h d.tm w hw⟩, hrs⟩, ?_, ?_, e⟩
      · simp only [drawStep, hk, hrd, cond_true, hf _ _ _ hv, putT_ok hd]
      · simp only [nextAl, hk]
      · simp only [nextEff, hk]
    · rename_i hrd
      simp only [ef] at e
      replace e : dQuiet f w k u d.tm d.hp d.nx df n0 (d.hs.map (·.1)) d.fl rs = r := e
      unfold dQuiet at e
      obtain ⟨v, hv, e⟩ := oinv hr e
      rw [h2] at e
      refine ⟨{ d with tm := put1 o.dst v d.tm }, rs, ?_, hrs, ?_, ?_, e⟩
      · simp only [drawStep, hk, hrd, cond_false, hf _ _ _ hv, putT_ok hd]
      · simp only [nextAl, hk]
      · simp only [nextEff, hk]
  · rename_i hk
    obtain ⟨g, eg, hg⟩ := aOf_ok (C := C) o
    simp only [eg] at e
    replace e : dAlloc i d.al g w k u d.tm d.hp d.nx df n0 (d.hs.map (·.1)) d.fl rs = r := e
    unfold dAlloc at e
    obtain ⟨⟨bl, m⟩, hp, e⟩ := oinv hr e
    replace e : Dl.rec (motive := fun _ => R) (fun c => c u (w (m.val (Nat.add n0 d.al)) d.tm) d.hp d.nx df n0 (d.hs.map (·.1)) ((i, Nat.add n0 d.al, bl) :: d.fl) rs) k = r := e
    rw [h2] at e
    refine ⟨{ d with tm := put1 o.dst (m.val (n0 + d.al)) d.tm, al := d.al + 1, fl := (i, n0 + d.al, bl) :: d.fl }, rs, ?_, hrs, ?_, ?_, e⟩
    · simp only [drawStep, hk, hg _ _ hp, putT_ok hd]
    · simp only [nextAl, hk]
    · simp only [nextEff, hk]
  · rename_i x hk1 hk2
    obtain ⟨g, eg, hg⟩ := eOf_ok (C := C) o
    simp only [eg] at e
    replace e : dEff (b.getD i 0) g w k u d.tm d.hp d.nx df n0 (d.hs.map (·.1)) d.fl rs = r := e
    unfold dEff at e
    obtain ⟨⟨v, h', nx'⟩, hp, e⟩ := oinv hr e
    replace e : Dl.rec (motive := fun _ => R) (fun c => c u (w v d.tm) h' nx' df n0 (d.hp :: d.hs.map (·.1)) (absorbF (b.getD i 0) d.fl) rs) k = r := e
    rw [h2] at e
    refine ⟨{ d with tm := put1 o.dst v d.tm, hp := h', nx := nx', hs := (d.hp, i) :: d.hs, fl := absorbF (b.getD i 0) d.fl }, rs, ?_, hrs, ?_, ?_, e⟩
    · unfold drawStep
      split
      · rename_i hk; exact absurd hk hk1
      · rename_i hk; exact absurd hk hk2
      · simp only [hg _ _ _ _ _ hp, putT_ok hd]
    · unfold nextAl
      split
      · rename_i hk; exact absurd hk hk2
      · rfl
    · unfold nextEff
      split
      · rename_i hk; exact absurd hk hk1
      · rename_i hk; exact absurd hk hk2
      · rfl

theorem dOff_ok (hr : r ≠ .no) (hrs : RecsR C b effs rs d.rs) (e : ad (dOff C nt o k) u d.tm d.hp d.nx df n0 (d.hs.map (·.1)) d.fl rs = r) (hal : True) :
    ∃ d' rs', drawStep C (rcOf u) b nt n0 o i false d = some d' ∧ RecsR C b effs rs' d'.rs ∧ d'.al = nextAl C.P o d.al ∧ d'.hs.map (·.2) = nextEff C.P o i (d.hs.map (·.2)) ∧
    ad k u d'.tm d'.hp d'.nx df n0 (d'.hs.map (·.1)) d'.fl rs' = r := by
  unfold dOff at e
  split at e
  · exact (dfail_inv hr e).elim
  rename_i hd
  obtain ⟨w, e2, h2⟩ := wrOf_ok o.dst
  simp only [e2] at e
  split at e
  · rename_i hk
    replace e : dSkip w k u d.tm d.hp d.nx df n0 (d.hs.map (·.1)) d.fl rs = r := e
    unfold dSkip at e
    rw [h2] at e
    refine ⟨{ d with tm := put1 o.dst (.tuple []) d.tm }, rs, ?_, hrs, ?_, ?_, e⟩
    · simp only [drawStep, hk, putT_ok hd]
    · simp only [nextAl, hk]
    · simp only [nextEff, hk]
  · rename_i hk
    replace e : dSkip w k u d.tm d.hp d.nx df n0 (d.hs.map (·.1)) d.fl rs = r := e
    unfold dSkip at e
    rw [h2] at e
    refine ⟨{ d with tm := put1 o.dst (.tuple []) d.tm, al := d.al + 1 }, rs, ?_, hrs, ?_, ?_, e⟩
    · simp only [drawStep, hk, putT_ok hd]
    · simp only [nextAl, hk]
    · simp only [nextEff, hk]
  · rename_i x hk1 hk2
    replace e : dSkipE w k u d.tm d.hp d.nx df n0 (d.hs.map (·.1)) d.fl rs = r := e
    unfold dSkipE at e
    rw [h2] at e
    refine ⟨{ d with tm := put1 o.dst (.tuple []) d.tm, hs := (d.hp, i) :: d.hs }, rs, ?_, hrs, ?_, ?_, e⟩
    · unfold drawStep
      split
      · rename_i hk; exact absurd hk hk1
      · rename_i hk; exact absurd hk hk2
      · simp only [putT_ok hd]
    · unfold nextAl
      split
      · rename_i hk; exact absurd hk hk2
      · rfl
    · unfold nextEff
      split
      · rename_i hk; exact absurd hk hk1
      · rename_i hk; exact absurd hk hk2
      · rfl
end

theorem dOps_ok {b : Array Nat} {effs : List Nat} {nt n0 : Nat} {ops : Array Oper} {k : Dl} {u : Fu} {df : DF} {r : R} (hr : r ≠ .no) : ∀ (l : List Oper) (i : Nat) (d : Ds) (rs : List Rc), RecsR C b effs rs d.rs →
    ad (dOps C nt b effs ops k l i d.al) u d.tm d.hp d.nx df n0 (d.hs.map (·.1)) d.fl rs = r →
    ∃ d' rs', drawA C (rcOf u) ops b nt n0 l i d = some d' ∧ RecsR C b effs rs' d'.rs ∧ effsOf C.P l i (d.hs.map (·.2)) = d'.hs.map (·.2) ∧
      ad k u d'.tm d'.hp d'.nx df n0 (d'.hs.map (·.1)) d'.fl rs' = r := by
  intro l
  induction l with
  | nil => intro i d rs hrs e; exact ⟨d, rs, rfl, hrs, rfl, e⟩
  | cons o l ih =>
    intro i d rs hrs e
    replace e : ad (dWant ops o (dOp C nt b effs o i d.al (dOps C nt b effs ops k l (i + 1) (nextAl C.P o d.al))) (dOff C nt o (dOps C nt b effs ops k l (i + 1) (nextAl C.P o d.al)))) u d.tm d.hp d.nx df n0 (d.hs.map (·.1)) d.fl rs = r := e
    rcases dWant_inv hr e with ⟨hw, e⟩ | ⟨hw, e⟩
    · obtain ⟨d1, rs1, h1, h2, h3, h4, h5⟩ := dOp_ok hr hrs e
      rw [← h3] at h5
      obtain ⟨d2, rs2, k1, k2, k3, k4⟩ := ih (i + 1) d1 rs1 h2 h5
      refine ⟨d2, rs2, ?_, k2, ?_, k4⟩
      · unfold drawA
        simp only [hw, h1]
        exact k1
      · rw [effsOf_cons, ← h4]; exact k3
    · obtain ⟨d1, rs1, h1, h2, h3, h4, h5⟩ := dOff_ok (i := i) hr hrs e trivial
      rw [← h3] at h5
      obtain ⟨d2, rs2, k1, k2, k3, k4⟩ := ih (i + 1) d1 rs1 h2 h5
      refine ⟨d2, rs2, ?_, k2, ?_, k4⟩
      · unfold drawA
        simp only [hw, h1]
        exact k1
      · rw [effsOf_cons, ← h4]; exact k3

/-! ### the region's text -/

theorem maskL_ok {l : List Tmp} {t : Tmp} (h : t ∈ l) : (maskL l).testBit t = true := by
  induction l with
  | nil => cases h
  | cons x l ih =>
    show (Nat.lor (Nat.shiftLeft 1 x) (maskL l)).testBit t = true
    have e : (Nat.lor (Nat.shiftLeft 1 x) (maskL l)) = (1 <<< x) ||| maskL l := rfl
    rw [e, Nat.testBit_or, Bool.or_eq_true]
    rcases List.mem_cons.1 h with rfl | h
    · exact .inl (by rw [Nat.one_shiftLeft, Nat.testBit_two_pow_self])
    · exact .inr (ih h)
theorem touch_looks {ops : Array Oper} {o : Oper} {t : Tmp} (h : t ∈ o.looksAt ops) : (touch ops o).testBit t = true := by
  unfold touch
  cases o.dst with
  | none => exact maskL_ok h
  | some d =>
    show (((1 <<< d) ||| maskL (o.looksAt ops)) : Nat).testBit t = true
    rw [Nat.testBit_or, maskL_ok h, Bool.or_true]
theorem touch_dst {ops : Array Oper} {o : Oper} {t : Tmp} (h : o.dst = some t) : (touch ops o).testBit t = true := by
  unfold touch
  rw [h]
  show (((1 <<< t) ||| maskL (o.looksAt ops)) : Nat).testBit t = true
  rw [Nat.testBit_or, Nat.one_shiftLeft, Nat.testBit_two_pow_self, Bool.true_or]

theorem allF_eq (p : Row → Bool) (l : List Row) : allF p l = l.all p := by
  induction l with
  | nil => rfl
  | cons x l ih => show andF (p x) (allF p l) = _; rw [andF_eq, ih]; rfl

theorem rowsOf_mem {P : Program} {ops : Array Oper} {b : Array Nat} : ∀ (l : List Oper) (i : Nat) (o : Oper) (j : Nat), (o, j) ∈ l.zipIdx i → Row.mk j o.dst (touch ops o) (b.getD j 0) (effD P o) ∈ rowsOf P ops b l i := by
  intro l
  induction l with
  | nil => intro i o j h; simp at h
  | cons x l ih =>
    intro i o j h
    rw [List.zipIdx_cons] at h
    show _ ∈ Row.mk i x.dst (touch ops x) (b.getD i 0) (effD P x) :: rowsOf P ops b l (i + 1)
    rcases List.mem_cons.1 h with h | h
    · injection h with h1 h2; subst h1; subst h2; exact List.mem_cons_self
    · exact List.mem_cons_of_mem _ (ih (i + 1) o j h)

theorem backOk_ok : ∀ (l : List Oper) (i : Nat), backOk l i = true → ((l.zipIdx i).all fun (o, i) => o.after.toList.all fun e => !Region.binds .any e || Nat.blt e.on i) = true := by
  intro l
  induction l with
  | nil => intro i _; rfl
  | cons x l ih =>
    intro i h
    replace h : andF (x.after.toList.all fun e => !Region.binds .any e || Nat.blt e.on i) (backOk l (i + 1)) = true := h
    rw [andF_eq, Bool.and_eq_true] at h
    rw [List.zipIdx_cons, List.all_cons, Bool.and_eq_true]
    exact ⟨h.1, ih (i + 1) h.2⟩

theorem drawOkF_ok {P : Program} {ops : Array Oper} (h : drawOkF P ops = true) : drawOk P ops = true := by
  unfold drawOkF at h
  rw [andF_eq, Bool.and_eq_true] at h
  obtain ⟨h1, h2⟩ := h
  have hp : ∀ {o q : Oper} {i j : Nat}, (o, i) ∈ ops.toList.zipIdx → (q, j) ∈ ops.toList.zipIdx →
      pairOk (.mk i o.dst (touch ops o) ((Region.before ops).getD i 0) (effD P o)) (.mk j q.dst (touch ops q) ((Region.before ops).getD j 0) (effD P q)) = true := by
    intro o q i j ho hq
    unfold rowsOk at h2
    rw [allF_eq, List.all_eq_true] at h2
    have := h2 _ (rowsOf_mem ops.toList 0 o i ho)
    rw [allF_eq, List.all_eq_true] at this
    exact this _ (rowsOf_mem ops.toList 0 q j hq)
  have hp' : ∀ {o q : Oper} {i j : Nat}, (o, i) ∈ ops.toList.zipIdx → (q, j) ∈ ops.toList.zipIdx →
      (∀ t, o.dst = some t → (Nat.beq i j || (!(touch ops q).testBit t || cond (Nat.blt i j) (Nat.testBit ((Region.before ops).getD j 0) i) (Nat.testBit ((Region.before ops).getD i 0) j))) = true) ∧
      (!effD P o || (!effD P q || (!Nat.blt i j || Nat.testBit ((Region.before ops).getD j 0) i))) = true := by
    intro o q i j ho hq
    have := hp ho hq
    replace this : andF (Option.rec (motive := fun _ => Bool) true (fun t => orF (Nat.beq i j) (orF (notF (bitF (touch ops q) t)) (Bool.rec (motive := fun _ => Bool) (bitF ((Region.before ops).getD i 0) j) (bitF ((Region.before ops).getD j 0) i) (Nat.blt i j)))) o.dst)
      (orF (notF (effD P o)) (orF (notF (effD P q)) (orF (notF (Nat.blt i j)) (bitF ((Region.before ops).getD j 0) i)))) = true := this
    simp only [andF_eq, orF_eq, notF_eq, bitF_eq, brec, Bool.and_eq_true] at this
    refine ⟨fun t ht => ?_, this.2⟩
    have h3 := this.1
    rw [ht] at h3
    exact h3
  unfold drawOk
  simp only [Bool.and_eq_true]
  refine ⟨backOk_ok _ _ h1, ?_, ?_⟩
  · rw [List.all_eq_true]
    rintro ⟨o, i⟩ ho
    simp only
    split
    · rfl
    · rename_i t ht
      rw [List.all_eq_true]
      rintro ⟨q, j⟩ hq
      have h3 := (hp' ho hq).1 t ht
      simp only
      cases hb : Nat.beq i j with
      | true => rfl
      | false =>
        rw [hb] at h3
        simp only [Bool.false_or] at h3 ⊢
        cases hc : cond (Nat.blt i j) (Nat.testBit ((Region.before ops).getD j 0) i) (Nat.testBit ((Region.before ops).getD i 0) j) with
        | true => rw [Bool.or_true]
        | false =>
          rw [hc] at h3
          have hnt : (touch ops q).testBit t = false := by simpa using h3
          rw [Bool.or_false]
          have h4 : (q.looksAt ops).contains t = false := by
            cases hcn : (q.looksAt ops).contains t with
            | false => rfl
            | true => rw [touch_looks (List.contains_iff_mem.1 hcn)] at hnt; cases hnt
          rw [h4, Bool.or_false]
          split
          · rename_i u hu
            cases he : Nat.beq u t with
            | false => rfl
            | true =>
              have := Nat.eq_of_beq_eq_true he
              subst this
              rw [touch_dst hu] at hnt; cases hnt
          · rfl
  · rw [List.all_eq_true]
    rintro ⟨o, i⟩ ho
    simp only
    cases heo : effD P o with
    | false => rfl
    | true =>
      simp only [Bool.not_true, Bool.false_or]
      rw [List.all_eq_true]
      rintro ⟨q, j⟩ hq
      have h3 := (hp' ho hq).2
      rw [heo] at h3
      simpa using h3

theorem drawF_ok {nt : Nat} {ops : Array Oper} {k : Cl} {u : Fu} {tm : T AV} {h : T AB} {nx : Nat} {df : DF} {r : R} (hr : r ≠ .no) (e : ap (drawF C nt ops k) u tm h nx df = r) :
    ∃ s', regionDrawA C (rcOf u) ops ⟨tm, nt, df.df, h, nx⟩ = some s' ∧ s'.nt = nt ∧ s'.df = df.df ∧ ap k u s'.tm s'.hp s'.nx df = r := by
  unfold drawF at e
  split at e
  · exact (fail_inv hr e).elim
  rename_i hok
  replace e : ad (dOps C nt (Region.before ops) (effsOf C.P ops.toList 0 []) ops (.mk (dEnd k)) ops.toList 0 0) u tm h (nx + allocsOf C.P ops) df nx [] [] [] = r := e
  obtain ⟨d, rs, h1, h2, h3, h4⟩ := dOps_ok hr ops.toList 0 { tm := tm, hp := h, nx := nx + allocsOf C.P ops, hs := [], fl := [], al := 0, rs := [] } [] trivial e
  replace h4 : dEnd k u d.tm d.hp d.nx df nx (d.hs.map (·.1)) d.fl rs = r := h4
  unfold dEnd at h4
  rw [brec] at h4
  cases hall : allRecs (d.hp :: d.hs.map (·.1)) rs with
  | false => rw [hall] at h4; exact absurd h4.symm hr
  | true =>
    rw [hall] at h4
    rw [show effsOf C.P ops.toList 0 [] = d.hs.map (·.2) from h3] at h2
    have hrec := allRecs_ok rs d.rs h2 hall
    refine ⟨⟨d.tm, nt, df.df, absorbAll d.fl d.hp, d.nx⟩, ?_, rfl, rfl, h4⟩
    unfold regionDrawA
    rw [drawOkF_ok hok]
    simp only [h1, hrec]

end
end Go.Abs.F

namespace Go.Abs.F
open Go Go.Abs

section
variable {C : Cfg}

def Fu.prev : Fu → Fu
  | .z => .z
  | .s _ _ u => u

def dfOf (rd : Option Nat) (l : List AD) : Option DF := match rd with
  | none => some (.fn l)
  | some r => match l with
    | [] => some (.round r)
    | _ => none
theorem dfOf_ok (d : DF) : dfOf d.rd d.df = some d := by cases d <;> rfl
theorem dfOf_inv {rd : Option Nat} {l : List AD} {d : DF} (h : dfOf rd l = some d) : d.rd = rd ∧ d.df = l := by
  cases rd with
  | none => injection h with h; subst h; exact ⟨rfl, rfl⟩
  | some r => cases l with
    | nil => injection h with h; subst h; exact ⟨rfl, rfl⟩
    | cons a l => cases h

/-- A loop's rounds, as the quick evaluator goes round. -/
noncomputable def rlOf (C : Cfg) (u : Fu) : RL := fun c rd cf s => match dfOf rd s.df with
  | none => none
  | some df => match iter (codeF C s.nt cf c haltN haltE haltR) haltE haltR .z u s.tm s.hp s.nx df with
    | .code x tm h nx d => some (x, ⟨tm, s.nt, d.df, h, nx⟩)
    | _ => none

def Cont (kn : Cl) (ke : Nat → Cl) (kr : Cl) (u : Fu) (x : AX) (tm : T AV) (h : T AB) (nx : Nat) (d : DF) (r : R) : Prop := match x with
  | .normal => ap kn u tm h nx d = r
  | .exit i => ap (ke i) u tm h nx d = r
  | .ret => ap kr u tm h nx d = r

theorem iter_s (body : Cl) (ke : Nat → Cl) (kr : Cl) (u0 : Fu) (c d) (u : Fu) (tm : T AV) (h : T AB) (nx : Nat) (df : DF) :
    iter body ke kr u0 (.s c d u) tm h nx df = R.rec (motive := fun _ => R) .no (fun _ _ _ => .no)
      (fun x tm h nx df => AX.rec (motive := fun _ => R) (iter body ke kr u0 u tm h nx df) (fun i => ap (ke i) u0 tm h nx df) (ap kr u0 tm h nx df) x) (ap body (.s c d u) tm h nx df) := rfl

theorem iter_ok {body : Cl} {ke : Nat → Cl} {kr : Cl} {u0 : Fu} {r : R} (hr : r ≠ .no)
    (hb : ∀ u tm h nx df x tm' h' nx' d', ap body u tm h nx df = .code x tm' h' nx' d' → df.upd d'.df = some d') : ∀ (u : Fu) (tm : T AV) (h : T AB) (nx : Nat) (df : DF), iter body ke kr u0 u tm h nx df = r →
    ∃ x tm' h' nx' d', x ≠ .normal ∧ iter body haltE haltR .z u tm h nx df = .code x tm' h' nx' d' ∧ df.upd d'.df = some d' ∧ Cont fail ke kr u0 x tm' h' nx' d' r := by
  intro u
  induction u with
  | z => intro tm h nx df e; exact absurd e.symm hr
  | s c d u ih =>
    intro tm h nx df e
    rw [iter_s] at e ⊢
    cases hx : ap body (.s c d u) tm h nx df with
    | no => rw [hx] at e; exact absurd e.symm hr
    | call => rw [hx] at e; exact absurd e.symm hr
    | code x tm1 h1 nx1 d1 =>
      rw [hx] at e
      have hd1 := hb _ _ _ _ _ _ _ _ _ _ hx
      cases x with
      | normal =>
        obtain ⟨x, tm', h', nx', d', q1, q2, q3, q4⟩ := ih tm1 h1 nx1 d1 e
        exact ⟨x, tm', h', nx', d', q1, q2, by rw [← DF.upd_upd hd1]; exact q3, q4⟩
      | exit i => exact ⟨.exit i, tm1, h1, nx1, d1, by simp, rfl, hd1, e⟩
      | ret => exact ⟨.ret, tm1, h1, nx1, d1, by simp, rfl, hd1, e⟩

theorem onX_inv {kn : Cl} {ke : Nat → Cl} {kr : Cl} {u : Fu} {d : DF} {y : Option (AX × Fs)} {r : R} (hr : r ≠ .no) (e : onX kn ke kr u d y = r) :
    ∃ x s' d', y = some (x, s') ∧ d.upd s'.df = some d' ∧ Cont kn ke kr u x s'.tm s'.hp s'.nx d' r := by
  unfold onX at e
  split at e
  · exact absurd e.symm hr
  · rename_i x s
    split at e
    · exact absurd e.symm hr
    · rename_i d' hd
      exact ⟨x, s, d', rfl, hd, by cases x <;> exact e⟩

theorem codeF_ok {nt : Nat} {cf : FuncId} : ∀ (c : Code) (kn : Cl) (ke : Nat → Cl) (kr : Cl) (u : Fu) (tm : T AV) (h : T AB) (nx : Nat) (df : DF) (r : R), r ≠ .no → ap (codeF C nt cf c kn ke kr) u tm h nx df = r →
    ∃ x s' d', codeA C (rcOf u) (rlOf C u.prev) (rrOf u) df.rd cf c ⟨tm, nt, df.df, h, nx⟩ = some (x, s') ∧ s'.nt = nt ∧ df.upd s'.df = some d' ∧ Cont kn ke kr u x s'.tm s'.hp s'.nx d' r := by
  intro c
  induction c with
  | skip => intro kn ke kr u tm h nx df r hr e; exact ⟨.normal, _, df, rfl, rfl, DF.upd_self _, e⟩
  | region id ops draw =>
    intro kn ke kr u tm h nx df r hr e
    cases draw with
    | false =>
      replace e : ap (opsF C nt cf ops ops.toList kn) u tm h nx df = r := e
      obtain ⟨s', d', h1, h2, h3, h4⟩ := opsF_ok hr _ tm h nx df e
      exact ⟨.normal, s', d', by simp only [codeA, h1], h2, h3, h4⟩
    | true =>
      replace e : ap (drawF C nt ops kn) u tm h nx df = r := e
      obtain ⟨s', h1, h2, h3, h4⟩ := drawF_ok hr e
      exact ⟨.normal, s', df, by simp only [codeA, h1], h2, by rw [h3]; exact DF.upd_self _, h4⟩
  | seq a b iha ihb =>
    intro kn ke kr u tm h nx df r hr e
    replace e : ap (codeF C nt cf a (codeF C nt cf b kn ke kr) ke kr) u tm h nx df = r := e
    obtain ⟨x, s1, d1, h1, h2, h3, h4⟩ := iha _ _ _ _ _ _ _ _ _ hr e
    obtain ⟨hd1, hd2⟩ := DF.upd_ok h3
    cases x with
    | normal =>
      obtain ⟨y, s2, d2, k1, k2, k3, k4⟩ := ihb _ _ _ _ _ _ _ _ _ hr h4
      have hs1 : s1 = ⟨s1.tm, nt, d1.df, s1.hp, s1.nx⟩ := by rw [hd1, ← h2]
      refine ⟨y, s2, d2, ?_, k2, by rw [← DF.upd_upd h3]; exact k3, k4⟩
      simp only [codeA, h1]
      rw [hs1, ← hd2]; exact k1
    | exit i => exact ⟨.exit i, s1, d1, by simp only [codeA, h1], h2, h3, h4⟩
    | ret => exact ⟨.ret, s1, d1, by simp only [codeA, h1], h2, h3, h4⟩
  | cond c a b iha ihb =>
    intro kn ke kr u tm h nx df r hr e
    replace e : ap (condF C.G c (codeF C nt cf a kn ke kr) (codeF C nt cf b kn ke kr)) u tm h nx df = r := e
    obtain ⟨r1, e1, h1⟩ := rdO_ok C.G c
    simp only [condF, e1] at e
    replace e : condK r1 (codeF C nt cf a kn ke kr) (codeF C nt cf b kn ke kr) u tm h nx df = r := e
    unfold condK at e
    obtain ⟨v, hv, e⟩ := oinv hr e
    rw [h1] at hv
    cases hb : asBool v with
    | no => rw [hb] at e; exact absurd e.symm hr
    | t =>
      rw [hb] at e
      obtain rfl := asBool_t hb
      obtain ⟨x, s', d', k1, k2, k3, k4⟩ := iha _ _ _ _ _ _ _ _ _ hr e
      exact ⟨x, s', d', by simp only [codeA, hv]; exact k1, k2, k3, k4⟩
    | f =>
      rw [hb] at e
      obtain rfl := asBool_f hb
      obtain ⟨x, s', d', k1, k2, k3, k4⟩ := ihb _ _ _ _ _ _ _ _ _ hr e
      exact ⟨x, s', d', by simp only [codeA, hv]; exact k1, k2, k3, k4⟩
  | block id b ih =>
    intro kn ke kr u tm h nx df r hr e
    replace e : ap (codeF C nt cf b kn (blk id kn ke) kr) u tm h nx df = r := e
    obtain ⟨x, s', d', k1, k2, k3, k4⟩ := ih _ _ _ _ _ _ _ _ _ hr e
    cases x with
    | normal => exact ⟨.normal, s', d', by simp only [codeA, k1], k2, k3, k4⟩
    | ret => exact ⟨.ret, s', d', by simp only [codeA, k1], k2, k3, k4⟩
    | exit i =>
      replace k4 : ap (blk id kn ke i) u s'.tm s'.hp s'.nx d' = r := k4
      unfold blk at k4
      rw [brec] at k4
      cases hi : Nat.beq i id with
      | false => rw [hi] at k4; exact ⟨.exit i, s', d', by simp only [codeA, k1, hi, cond_false], k2, k3, k4⟩
      | true => rw [hi] at k4; exact ⟨.normal, s', d', by simp only [codeA, k1, hi, cond_true], k2, k3, k4⟩
  | loop b ih =>
    intro kn ke kr u tm h nx df r hr e
    replace e : iter (codeF C nt cf b haltN haltE haltR) ke kr u u tm h nx df = r := e
    have hb : ∀ u tm h nx df x tm' h' nx' d', ap (codeF C nt cf b haltN haltE haltR) u tm h nx df = .code x tm' h' nx' d' → df.upd d'.df = some d' ∧
        codeA C (rcOf u) (rlOf C u.prev) (rrOf u) df.rd cf b ⟨tm, nt, df.df, h, nx⟩ = some (x, ⟨tm', nt, d'.df, h', nx'⟩) := by
      intro u tm h nx df x tm' h' nx' d' e
      obtain ⟨x1, s1, d1, k1, k2, k3, k4⟩ := ih _ _ _ _ _ _ _ _ _ (by simp) e
      obtain ⟨hd1, hd2⟩ := DF.upd_ok k3
      have hs1 : s1 = ⟨s1.tm, nt, d1.df, s1.hp, s1.nx⟩ := by rw [hd1, ← k2]
      have : R.code x1 s1.tm s1.hp s1.nx d1 = R.code x tm' h' nx' d' := by cases x1 <;> exact k4
      injection this with e1 e2 e3 e4 e5
      subst e1 e2 e3 e4 e5
      exact ⟨by rw [hd1]; exact k3, by rw [k1]; congr 2⟩
    cases u with
    | z => exact absurd e.symm hr
    | s c d u =>
      rw [iter_s] at e
      cases hx : ap (codeF C nt cf b haltN haltE haltR) (.s c d u) tm h nx df with
      | no => rw [hx] at e; exact absurd e.symm hr
      | call => rw [hx] at e; exact absurd e.symm hr
      | code x tm1 h1 nx1 d1 =>
        rw [hx] at e
        obtain ⟨hd1, hc1⟩ := hb _ _ _ _ _ _ _ _ _ _ hx
        cases x with
        | normal =>
          obtain ⟨x, tm', h', nx', d', q1, q2, q3, q4⟩ := iter_ok hr (fun u tm h nx df x tm' h' nx' d' e => (hb u tm h nx df x tm' h' nx' d' e).1) u tm1 h1 nx1 d1 e
          refine ⟨x, ⟨tm', nt, d'.df, h', nx'⟩, d', ?_, rfl, by rw [← DF.upd_upd hd1]; exact q3, ?_⟩
          · simp only [codeA, hc1]
            show rlOf C u b df.rd cf ⟨tm1, nt, d1.df, h1, nx1⟩ = _
            unfold rlOf
            simp only
            rw [← (DF.upd_ok hd1).2, dfOf_ok]
            simp only [q2]
          · cases x with
            | normal => exact absurd rfl q1
            | exit i => exact q4
            | ret => exact q4
        | exit i => exact ⟨.exit i, ⟨tm1, nt, d1.df, h1, nx1⟩, d1, by simp only [codeA, hc1], rfl, hd1, e⟩
        | ret => exact ⟨.ret, ⟨tm1, nt, d1.df, h1, nx1⟩, d1, by simp only [codeA, hc1], rfl, hd1, e⟩
  | rangeFunc g ps a b iha ihb =>
    intro kn ke kr u tm h nx df r hr e
    replace e : onX kn ke kr u df (codeA C (rcOf u) (fun _ _ _ _ => none) (rrOf u) df.rd cf (.rangeFunc g ps a b) ⟨tm, nt, df.df, h, nx⟩) = r := e
    obtain ⟨x, s', d', h1, h2, h3⟩ := onX_inv hr e
    have hrl : ∀ rl, codeA C (rcOf u) rl (rrOf u) df.rd cf (.rangeFunc g ps a b) ⟨tm, nt, df.df, h, nx⟩ = some (x, s') := fun rl => by
      rw [← h1]; simp only [codeA]
    refine ⟨x, s', d', hrl _, ?_, h2, h3⟩
    clear hrl h2 h3 e
    simp only [codeA] at h1
    repeat (any_goals (split at h1))
    all_goals first
      | (cases h1; done)
      | (injection h1 with h1; injection h1 with h1 h2; subst h2; rfl)
  | exit id => intro kn ke kr u tm h nx df r hr e; exact ⟨.exit id, _, df, rfl, rfl, DF.upd_self _, e⟩
  | ret => intro kn ke kr u tm h nx df r hr e; exact ⟨.ret, _, df, rfl, rfl, DF.upd_self _, e⟩
  | _ => intros; exact (fail_inv (by assumption) (by assumption)).elim

end
end Go.Abs.F

namespace Go.Abs.F
open Go Go.Abs

section
variable {C : Cfg}

theorem resF_ok {h : T AB} {tm : T AV} : ∀ (l : List ResultVar) (vs : List AV), resF C h tm l = some vs → resultsA C.P h tm l = some vs := by
  intro l
  induction l with
  | nil => intro vs e; exact e
  | cons x l ih =>
    intro vs e
    replace e : Option.rec (motive := fun _ => Option (List AV)) none (fun v => Option.rec (motive := fun _ => Option (List AV)) none (fun vs => some (v :: vs)) (resF C h tm l))
      (ResultVar.rec (motive := fun _ => Option AV) (fun t => rdT tm t) (fun a t => Option.rec (motive := fun _ => Option AV) none (fun x => G1.rec (motive := fun _ => Option AV) (fun g => g x h) (loadG (lkOf C.P t))) (rdT tm a)) x) = some vs := e
    cases x with
    | tmp t =>
      replace e : Option.rec (motive := fun _ => Option (List AV)) none (fun v => Option.rec (motive := fun _ => Option (List AV)) none (fun vs => some (v :: vs)) (resF C h tm l)) (rdT tm t) = some vs := e
      rw [rdT_eq] at e
      simp only [resultsA]
      cases hv : T.get tm t with
      | none => rw [hv] at e; cases e
      | some v =>
        rw [hv] at e
        replace e : Option.rec (motive := fun _ => Option (List AV)) none (fun vs => some (v :: vs)) (resF C h tm l) = some vs := e
        cases hl : resF C h tm l with
        | none => rw [hl] at e; cases e
        | some ws => rw [hl] at e; simp only [ih ws hl]; exact e
    | cell a t =>
      obtain ⟨g, eg, hg⟩ := loadG_ok C.P t
      replace e : Option.rec (motive := fun _ => Option (List AV)) none (fun v => Option.rec (motive := fun _ => Option (List AV)) none (fun vs => some (v :: vs)) (resF C h tm l))
        (Option.rec (motive := fun _ => Option AV) none (fun x => G1.rec (motive := fun _ => Option AV) (fun g => g x h) (loadG (lkOf C.P t))) (rdT tm a)) = some vs := e
      rw [eg] at e
      replace e : Option.rec (motive := fun _ => Option (List AV)) none (fun v => Option.rec (motive := fun _ => Option (List AV)) none (fun vs => some (v :: vs)) (resF C h tm l))
        (Option.rec (motive := fun _ => Option AV) none (fun x => g x h) (rdT tm a)) = some vs := e
      rw [rdT_eq] at e
      simp only [resultsA]
      cases ha : T.get tm a with
      | none => rw [ha] at e; cases e
      | some x =>
        rw [ha] at e
        replace e : Option.rec (motive := fun _ => Option (List AV)) none (fun v => Option.rec (motive := fun _ => Option (List AV)) none (fun vs => some (v :: vs)) (resF C h tm l)) (g x h) = some vs := e
        cases hv : g x h with
        | none => rw [hv] at e; cases e
        | some v =>
          rw [hv] at e
          replace e : Option.rec (motive := fun _ => Option (List AV)) none (fun vs => some (v :: vs)) (resF C h tm l) = some vs := e
          simp only [hg hv]
          cases hl : resF C h tm l with
          | none => rw [hl] at e; cases e
          | some ws => rw [hl] at e; simp only [ih ws hl]; exact e

theorem endF_inv {h : T AB} {nx : Nat} {x : Option (List AV)} {v : AV} {h' : T AB} {nx' : Nat} (e : endF h nx x = .call v h' nx') : ∃ vs, x = some vs ∧ v = tupOf vs ∧ h' = h ∧ nx' = nx := by
  cases x with
  | none => cases e
  | some vs => injection e with e1 e2 e3; exact ⟨vs, rfl, e1.symm, e2.symm, e3.symm⟩

/-- What a function's end comes to. -/
theorem retF_inv {pl : Bool} {rs : List ResultVar} {u : Fu} {tm : T AV} {h : T AB} {nx : Nat} {d : DF} {v : AV} {h' : T AB} {nx' : Nat} (e : ap (retF C pl rs) u tm h nx d = .call v h' nx') :
    ∃ l vs, d = .fn l ∧ (cond (pl && !l.isEmpty) none (defersA C (rdOf u) l h nx)) = some (h', nx') ∧ resultsA C.P h' tm rs = some vs ∧ v = tupOf vs := by
  cases d with
  | round l => cases e
  | fn l =>
    replace e : endL C pl rs u tm h nx l = .call v h' nx' := e
    cases l with
    | nil =>
      obtain ⟨vs, h1, h2, rfl, rfl⟩ := endF_inv (show endF h nx (resF C h tm rs) = _ from e)
      exact ⟨[], vs, rfl, by cases pl <;> rfl, resF_ok _ _ h1, h2⟩
    | cons a l =>
      replace e : endD C pl rs u tm h nx (a :: l) = .call v h' nx' := e
      unfold endD at e
      split at e
      · cases e
      · split at e
        · rename_i h1 nx1 hd
          obtain ⟨vs, k1, k2, rfl, rfl⟩ := endF_inv e
          exact ⟨a :: l, vs, rfl, hd, resF_ok _ _ k1, k2⟩
        · cases e

theorem lenF_eq (l : List AV) : lenF l = l.length := by
  induction l with
  | nil => rfl
  | cons x l ih => show Nat.succ (lenF l) = _; rw [ih]; rfl
theorem layF_eq (l : List AV) : ∀ (i : Nat) (t : T AV), layF l i t = T.ofList t i l := by
  induction l with
  | nil => intro i t; rfl
  | cons v l ih => intro i t; show layF l (Nat.succ i) (wrT t i v) = _; rw [ih, wrT_eq]; rfl

theorem enterF_ok {pl : Bool} {u : Fu} {f : FuncId} {args : List AV} {h : T AB} {nx : Nat} {v : AV} {h' : T AB} {nx' : Nat} (e : enterF C pl u f args h nx = .call v h' nx') :
    callA C pl (rcOf u) (rdOf u) (rlOf C u.prev) (rrOf u) f args h nx = some (v, h', nx') := by
  unfold enterF fbOf at e
  rw [fnF_eq] at e
  unfold callA
  split at e
  · rename_i fn hfn
    rw [hfn]
    simp only
    split at e
    · rename_i c hb
      rw [hb]
      simp only
      replace e : Bool.rec (motive := fun _ => R) .no (ap (codeF C fn.ntmps f c (retF C pl fn.results.toList) (fun _ => fail) (retF C pl fn.results.toList)) u (layF args 0 .leaf) h nx (.fn [])) (Nat.ble (lenF args) fn.ntmps) = .call v h' nx' := e
      rw [brec, layF_eq, lenF_eq] at e
      cases hle : Nat.ble args.length fn.ntmps with
      | false => rw [hle] at e; cases e
      | true =>
        rw [hle] at e
        have hmax : max args.length fn.ntmps = fn.ntmps := Nat.max_eq_right (Nat.le_of_ble_eq_true hle)
        rw [hmax]
        replace e : ap (codeF C fn.ntmps f c (retF C pl fn.results.toList) (fun _ => fail) (retF C pl fn.results.toList)) u (T.ofList .leaf 0 args) h nx (.fn []) = .call v h' nx' := e
        obtain ⟨x, s', d', k1, k2, k3, k4⟩ := codeF_ok _ _ _ _ _ _ _ _ _ _ (by simp) e
        have hend : ∀ s' : Fs, (DF.fn []).upd s'.df = some d' → ap (retF C pl fn.results.toList) u s'.tm s'.hp s'.nx d' = .call v h' nx' →
            (match cond (pl && !s'.df.isEmpty) none (defersA C (rdOf u) s'.df s'.hp s'.nx) with
              | some (h', nx') => match resultsA C.P h' s'.tm fn.results.toList with
                | some [v] => some (v, h', nx')
                | some vs => some (.tuple vs, h', nx')
                | none => none
              | none => none) = some (v, h', nx') := by
          intro s' hd e
          obtain ⟨l, vs, rfl, q1, q2, q3⟩ := retF_inv e
          injection hd with hd; injection hd with hd
          rw [hd, q1]
          simp only [q2]
          subst q3
          cases vs with
          | nil => rfl
          | cons a vs => cases vs <;> rfl
        have k1' : codeA C (rcOf u) (rlOf C u.prev) (rrOf u) none f c ⟨T.ofList .leaf 0 args, fn.ntmps, [], h, nx⟩ = some (x, s') := k1
        rw [k1']
        cases x with
        | normal => exact hend s' k3 k4
        | ret => exact hend s' k3 k4
        | exit i => exact (fail_inv (by simp) k4).elim
    · replace e : Bool.rec (motive := fun _ => R) .no (ap fail u (layF args 0 .leaf) h nx (.fn [])) (Nat.ble (lenF args) 0) = .call v h' nx' := e
      rw [brec] at e
      cases hle : Nat.ble (lenF args) 0 <;> rw [hle] at e <;> cases e
  · replace e : Bool.rec (motive := fun _ => R) .no (ap fail u (layF args 0 .leaf) h nx (.fn [])) (Nat.ble (lenF args) 0) = .call v h' nx' := e
    rw [brec] at e
    cases hle : Nat.ble (lenF args) 0 <;> rw [hle] at e <;> cases e

/-! ### all of it is right -/

/-- What is asked of fuel. -/
structure Good (C : Cfg) (u : Fu) : Prop where
  rc : RcOk C.P C.G (rcOf u)
  rd : RdOk C.P C.G (rdOf u)
  rr : CodeOk C.P C.G (rrOf u)
  rl : LoopOk C.P C.G (rlOf C u)

theorem rcOf_inv {u : Fu} {f : FuncId} {args : List AV} {h : T AB} {nx : Nat} {p : AV × T AB × Nat} (e : rcOf u f args h nx = some p) : Fu.call u false f args h nx = .call p.1 p.2.1 p.2.2 := by
  unfold rcOf at e
  cases hc : Fu.call u false f args h nx with
  | no => rw [hc] at e; cases e
  | call v h' nx' => rw [hc] at e; injection e with e; subst e; rfl
  | code => rw [hc] at e; cases e
theorem rdOf_inv {u : Fu} {f : FuncId} {args : List AV} {h : T AB} {nx : Nat} {p : AV × T AB × Nat} (e : rdOf u f args h nx = some p) : Fu.call u true f args h nx = .call p.1 p.2.1 p.2.2 := by
  unfold rdOf at e
  cases hc : Fu.call u true f args h nx with
  | no => rw [hc] at e; cases e
  | call v h' nx' => rw [hc] at e; injection e with e; subst e; rfl
  | code => rw [hc] at e; cases e

theorem rrOf_inv {u : Fu} {c : Code} {rd : Option Nat} {cf : FuncId} {s : Fs} {p : AX × Fs} (e : rrOf u c rd cf s = some p) :
    ∃ l x tm h nx l', rd = some l ∧ s.df = [] ∧ u.code c cf s.nt s.tm s.hp s.nx l = .code x tm h nx (.round l') ∧ p = (x, ⟨tm, s.nt, [], h, nx⟩) := by
  unfold rrOf at e
  split at e
  · rename_i l hdf
    split at e
    · rename_i x tm h nx l' hc
      injection e with e
      exact ⟨l, x, tm, h, nx, l', rfl, hdf, hc, e.symm⟩
    · cases e
  · cases e

theorem loopF_ok {u : Fu} {c : Code} {rd : Option Nat} {cf : FuncId} {s s' : Fs} {x : AX} (e : rlOf C u c rd cf s = some (x, s')) :
    codeA C (rcOf u) (rlOf C u.prev) (rrOf u) rd cf (.loop c) s = some (x, s') := by
  unfold rlOf at e
  split at e
  · cases e
  rename_i df hdf
  obtain ⟨rfl, hl⟩ := dfOf_inv hdf
  split at e
  · rename_i x1 tm1 h1 nx1 d1 hi
    injection e with e; injection e with e1 e2; subst e1; subst e2
    have hi' : ap (codeF C s.nt cf (.loop c) haltN haltE haltR) u s.tm s.hp s.nx df = .code x1 tm1 h1 nx1 d1 := by
      show iter (codeF C s.nt cf c haltN haltE haltR) haltE haltR u u s.tm s.hp s.nx df = _
      have hind : ∀ (v : Fu) (tm : T AV) (h : T AB) (nx : Nat) (df : DF), iter (codeF C s.nt cf c haltN haltE haltR) haltE haltR u v tm h nx df = iter (codeF C s.nt cf c haltN haltE haltR) haltE haltR .z v tm h nx df := by
        intro v
        induction v with
        | z => intros; rfl
        | s c' d' v ih =>
          intro tm h nx df
          rw [iter_s, iter_s]
          cases ap (codeF C s.nt cf c haltN haltE haltR) (.s c' d' v) tm h nx df with
          | no => rfl
          | call => rfl
          | code x tm h nx df => cases x with
            | normal => exact ih tm h nx df
            | exit i => rfl
            | ret => rfl
      rw [hind]; exact hi
    obtain ⟨x, s2, d2, k1, k2, k3, k4⟩ := codeF_ok _ _ _ _ _ _ _ _ _ _ (by simp) hi'
    obtain ⟨hd1, hd2⟩ := DF.upd_ok k3
    have : R.code x s2.tm s2.hp s2.nx d2 = R.code x1 tm1 h1 nx1 d1 := by cases x <;> exact k4
    injection this with e1 e2 e3 e4 e5
    subst e1 e2 e3 e4 e5
    have hs : s = ⟨s.tm, s.nt, df.df, s.hp, s.nx⟩ := by rw [hl]
    have hs2 : s2 = ⟨s2.tm, s.nt, d2.df, s2.hp, s2.nx⟩ := by rw [hd1, ← k2]
    rw [hs, k1]
    congr 2
  · cases e

variable (hE : ExtOk C) (hN : NamesOk C.P) (hmix : C.P.follows .mixedOrders = true) {M : RC} (hM : RcOk C.P C.G M)

include hE hN hmix in
theorem loop_good {u : Fu} (h1 : RcOk C.P C.G (rcOf u)) (h2 : CodeOk C.P C.G (rrOf u)) (h3 : LoopOk C.P C.G (rlOf C u.prev)) : LoopOk C.P C.G (rlOf C u) :=
  fun _ _ _ _ _ _ _ _ _ _ he hs hF => loopA_sound hE hN h1 h3 h2 (drawOk_sound hmix hE hN h1) (loopF_ok he) hs hF

theorem z_rc {P : Program} {G : Nat} : RcOk P G (rcOf .z) := fun _ _ _ _ _ _ _ _ _ _ he => by cases he
theorem z_rd {P : Program} {G : Nat} : RdOk P G (rdOf .z) := fun _ _ _ _ _ _ _ _ _ _ he => by cases he
theorem z_rr {P : Program} {G : Nat} : CodeOk P G (rrOf .z) := fun _ _ _ _ _ _ _ _ _ _ he => by
  obtain ⟨l, x, tm, h, nx, l', _, _, hc, _⟩ := rrOf_inv he
  cases hc
theorem z_rl {P : Program} {G : Nat} : LoopOk P G (rlOf C .z) := fun _ _ _ _ _ _ _ _ _ _ he => by
  unfold rlOf at he
  split at he
  · cases he
  · cases he

include hE hN hmix hM in
theorem good (n : Nat) : Good C (fu C M n) ∧ LoopOk C.P C.G (rlOf C (fu C M n).prev) := by
  induction n with
  | zero => exact ⟨⟨z_rc, z_rd, z_rr, z_rl⟩, z_rl⟩
  | succ n ih =>
    obtain ⟨⟨g1, g2, g3, g4⟩, g5⟩ := ih
    have hd := drawOk_sound hmix hE hN g1
    have hfu : fu C M (n + 1) = .s (callF C M (fu C M n)) (pieceF C (fu C M n)) (fu C M n) := rfl
    have c1 : RcOk C.P C.G (rcOf (fu C M (n + 1))) := by
      intro f args h nx v h' nx' φ w cargs he hv r gl
      have hc := rcOf_inv he
      rw [hfu] at hc
      replace hc : orMemo M false f args h nx (enterF C false (fu C M n) f args h nx) = .call v h' nx' := hc
      unfold orMemo at hc
      cases hm : M f args h nx with
      | some p =>
        obtain ⟨v1, h1, n1⟩ := p
        rw [hm] at hc
        injection (show R.call v1 h1 n1 = _ from hc) with e1 e2 e3
        subst e1 e2 e3
        exact hM f args h nx _ _ _ φ w cargs hm hv r gl
      | none =>
        rw [hm] at hc
        exact call_sound hE hN g1 g2 g5 g3 hd (enterF_ok (show enterF C false (fu C M n) f args h nx = _ from hc)) hv r gl
    have c2 : RdOk C.P C.G (rdOf (fu C M (n + 1))) := by
      intro f args h nx v h' nx' φ w cargs he hv r gl
      have hc := rdOf_inv he
      rw [hfu] at hc
      exact dcall_sound hE hN g1 g5 g3 hd (enterF_ok (show enterF C true (fu C M n) f args h nx = _ from hc)) hv r gl
    have c3 : CodeOk C.P C.G (rrOf (fu C M (n + 1))) := by
      intro c rd cf s x s' φ a w F he hs hF
      obtain ⟨l, x1, tm, h, nx, l', rfl, hdf, hc, hp⟩ := rrOf_inv he
      injection hp with hp1 hp2; subst hp1; subst hp2
      rw [hfu] at hc
      replace hc : ap (codeF C s.nt cf c haltN haltE haltR) (fu C M n) s.tm s.hp s.nx (.round l) = .code x tm h nx (.round l') := hc
      obtain ⟨x2, s2, d2, k1, k2, k3, k4⟩ := codeF_ok _ _ _ _ _ _ _ _ _ _ (by simp) hc
      obtain ⟨hd1, hd2⟩ := DF.upd_ok k3
      have : R.code x2 s2.tm s2.hp s2.nx d2 = R.code x tm h nx (.round l') := by cases x2 <;> exact k4
      injection this with e1 e2 e3 e4 e5
      subst e1 e2 e3 e4 e5
      have hs1 : s = ⟨s.tm, s.nt, (DF.round l).df, s.hp, s.nx⟩ := by
        show s = ⟨s.tm, s.nt, [], s.hp, s.nx⟩
        rw [← hdf]
      have hs2 : s2 = ⟨s2.tm, s.nt, [], s2.hp, s2.nx⟩ := by
        have h0 : s2.df = [] := hd1.symm
        rw [← k2, ← h0]
      rw [← hs1, hs2] at k1
      exact codeA_sound hE hN g1 g5 g3 hd c (some l) s x2 _ φ a w F k1 hs hF
    exact ⟨⟨c1, c2, c3, loop_good hE hN hmix c1 c3 g4⟩, g4⟩

include hE hN hmix hM in
/-- The quick evaluator is right. -/
theorem run_rc (n : Nat) : RcOk C.P C.G (rcOf (fu C M n)) := (good hE hN hmix hM n).1.rc

include hE hN hmix hM in
theorem run_sound (n : Nat) {f : FuncId} {args : List AV} {h : T AB} {nx : Nat} {v : AV} {h' : T AB} {nx' : Nat} (hr : run C M n f args h nx = .call v h' nx') {φ : Ren} {w : World} {cargs : Array Value}
    (hv : VRs φ args cargs.toList) (r : Rel h nx φ w) (gl : GL C.G φ) : CallsIn Fence.wide 0 C.P f cargs w (RR h nx φ w v h' nx') :=
  run_rc hE hN hmix hM n f args h nx v h' nx' φ w cargs (rcOf_call hr) hv r gl

theorem noMemo_ok {P : Program} {G : Nat} : RcOk P G noMemo := fun _ _ _ _ _ _ _ _ _ _ he => by cases he

end
end Go.Abs.F
