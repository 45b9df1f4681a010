/-
  A closed law, reckoned by the kernel through the evaluator: part S5. (The conditions stand in the row and the card that are given.) Written by an AI agent for this claim.
-/
import Derived.Test.YtbbpbklbmoeocaaGreatDoorS2
import Derived.Test.YtbbpbklbmoeocaaGreatDoorEvH
import Derived.Test.YtbbpbklbmoeocaaGreatDoorTie
import Derived.Test.YtbbpbklbmoeocaaGreatDoorCards
import Derived.ChangeSame
import Derived.ChangeVars
import Derived.JoinedOf
import Derived.RowKit
import Derived.RowKitTokens
import Derived.LaidLaws
import Derived.Stop.Joined
import Derived.SevenTiedAt
set_option linter.unusedVariables false
set_option linter.unusedSimpArgs false
namespace Go.Proofs.YtbbpbklbmoeocaaGreatDoor
open Go Go.Abs Go.Abs.F
open Go.ChangeShapes Go.WideShapes Go.RowKit

theorem own : ownKnob Tryz.prog.godebug = none := by kernel_rfl
theorem gT : Tryz.prog.globalNamed "strings.asciiSpace" = some 0 := by kernel_rfl
theorem gTType : (Tryz.prog.globals[0]?).map (·.type) = some 509 := by kernel_rfl
theorem cells5 : Tryz.prog.cellsOf 5 = 1 := by kernel_rfl
theorem cells509 : Tryz.prog.cellsOf 509 = 256 := by kernel_rfl
theorem und509 : Tryz.prog.underlying 509 = some (.array 256 5) := by kernel_rfl
theorem und5 : Tryz.prog.underlying 5 = some (.int .u8) := by kernel_rfl
theorem und4 : Tryz.prog.underlying 4 = some .bool := by kernel_rfl
theorem row0 : (((begin Tryz.prog (fun _ _ => 0) default).world.heap[0]?).bind Obj.row?).map (·.2) = some 509 := by kernel_rfl

def spaceZ : List Int := [0,0,0,0,0,0,0,0,0,1,1,1,1,1,0,0,0,0,0,0,0,0,0,0,0,0,0,0,0,0,0,0,1].map Int.ofNat ++ List.replicate 223 (Int.ofNat 0)
theorem laid_tab {H : Type} : (Rows.laid_strings_asciiSpace : DataW H) = Lib.tabData .u8 spaceZ := by kernel_rfl
theorem space_vals : (spaceL.map intV) = spaceZ.map fun z => Value.int .u8 z := by kernel_rfl

/-- What the condition and the world's shape give: the table. -/
theorem rows_of_laid {W : World} (h : laidMetH Tryz.prog Rows.fillRingRow.laid W) (hsh : W.ShapedOpen Tryz.prog) : HasRows W gs := by
  have h' : laidMet Tryz.prog [("unicode.White_Space", Rows.laid_unicode_White_Space), ("strings.asciiSpace", Rows.laid_strings_asciiSpace)] W := h
  obtain ⟨ps, ⟨g1, t1, cs1, fuel1, p1, q1, _, _, _, _, ⟨g2, t2, cs2, fuel2, p2, q2, hg', ht', hvar, hd, _, _⟩, _⟩, _⟩ := h'
  obtain rfl := Option.some.inj (gT.symm.trans hg')
  obtain rfl := Option.some.inj (gTType.symm.trans ht')
  rw [laid_tab] at hd
  have hcs := Lib.cells_of_tab und509 und5 cells5 cells509 hd
  obtain ⟨zt, hz, ht⟩ := Option.map_eq_some_iff.1 row0
  obtain ⟨z, t⟩ := zt
  simp only at ht
  subst ht
  obtain ⟨cs, hc, hs, _⟩ := hsh.1 0 z 509 (by decide +kernel) hz
  have hcc : cs = cs2 := by
    unfold World.var? at hvar
    rw [gT] at hvar
    simp only [Option.bind_some, hc] at hvar
    exact Option.some.inj hvar
  intro x hx
  have hx' : x = spaceG := by simpa [gs] using hx
  subst hx'
  show W.heap[0]? = some (.cells (spaceL.map intV).toArray 509 (0, 0))
  rw [hc, hcc, space_vals]
  have : cs2 = (spaceZ.map fun z => Value.int .u8 z).toArray := by rw [← hcs]
  rw [this]

/-- A world that meets the condition. -/
noncomputable def laidWorld (os : Os) : World :=
  let N := (World.settled Tryz.prog os).heap.size
  let r (a b c : Int) : List Value := [.int .u16 a, .int .u16 b, .int .u16 c]
  let w0 := World.holding Tryz.prog os ⟨#[.cells (r 9 13 1 ++ r 32 133 101 ++ r 160 5760 5600 ++ r 8192 8202 1 ++ r 8232 8233 1 ++ r 8239 8287 48 ++ r 12288 12288 1).toArray 562,
    .cells #[.slice (some ⟨N, 0, none⟩) 7 7, .slice none 0 0, .int .i64 2] 559], #[], []⟩
  let put (h : Array Obj) (g : Nat) (cs : Array Value) : Array Obj := h.modify g fun
    | .cells _ t frozen => .cells cs t frozen
    | o => o
  { w0 with heap := put (put w0.heap 0 (spaceZ.map fun z => Value.int .u8 z).toArray) 1 #[.pointer (some ⟨N + 1, 0, none⟩)] }
theorem laidWorld_met (os : Os) (args : Array Value) : laidMetH Tryz.prog Rows.fillRingRow.laid ((laidWorld os).forCall (fun _ _ => 0) ⟨#[], args, []⟩).memory :=
  (laidMet_of_run' (l := [("unicode.White_Space", Rows.laid_unicode_White_Space), ("strings.asciiSpace", Rows.laid_strings_asciiSpace)]) 20 (by kernel_rfl) (by kernel_rfl) :
    laidMet Tryz.prog [("unicode.White_Space", Rows.laid_unicode_White_Space), ("strings.asciiSpace", Rows.laid_strings_asciiSpace)] ((laidWorld os).forCall (fun _ _ => 0) ⟨#[], args, []⟩).memory)
theorem laidWorld_shaped (os : Os) (args : Array Value) : ((laidWorld os).forCall (fun _ _ => 0) ⟨#[], args, []⟩).Shaped Tryz.prog :=
  World.shaped_of_RefB (by kernel_rfl) (by kernel_rfl)

theorem gsOk : gOk C.G gs = true := by decide +kernel
theorem gsInt : (gs.all fun x => x.l.all isInt) = true := by decide +kernel

/-- What is shown of the call. -/
def Walk : Prop := ∀ (a b : Bool) (W : World), HasRows W gs → Calls Tryz.prog 3 #[.bool a, .bool b] W fun e W' => e = .returned (.bool true) ∧ Stayed W W'

set_option maxRecDepth 100000 in
theorem law_lifted (walk : Walk) (os : Os) (started : os.Started) (H : Type) (enc : TypeId × Value → H) :
    ReturnsInHanded {} Tryz.checked os 3 .any (fun w args => (Rows.fillRingSpec.pre enc Tryz.prog Tryz.f3 [] false w args ∧ laidMetH Tryz.prog Rows.fillRingRow.laid w) ∧ sizedMet enc Tryz.prog Tryz.f3 (OpenSpec.ofChange Rows.fillRingSpec) false w args)
      (Rows.fillRingSpec.post enc Tryz.prog Tryz.f3 false true false false) := by
  refine handed_and_shaped (C := Tryz.checked) (X := fun w _ => laidMetH Tryz.prog Rows.fillRingRow.laid w) (fun _ _ _ hh h => h.of_heap hh) own started (by kernel_rfl) Tryz.func3
    (ChangeSpec.witness_shaped (enc := enc) (C := Tryz.checked) (os := os) (X := fun w _ => laidMetH Tryz.prog Rows.fillRingRow.laid w) false (laidWorld os) #[.bool false, .bool false] 8 rfl (laidWorld_shaped os _) (by kernel_rfl) (by kernel_rfl) (by kernel_rfl) (laidWorld_met os _)) ?_
  intro W base args ds gs0 before hval0 hW _ hL hsh
  have hval : ∀ (j : Nat) t v, Tryz.f3.params[j]? = some t → args[j]? = some v → Value.okWide Tryz.prog W .any base t v := hval0
  have hW' := hW
  obtain ⟨p, q, hA0, hV0, rfl, hfz, hnd⟩ := hW
  have hA : DataW.TrodAll enc Tryz.prog W 0 (fun _ => true) true Tryz.f3.params.toList args.toList ds p := hA0
  rw [Tryz.params3] at hA hval
  obtain ⟨v0, v1, d0, d1, p0, p1, hargs, rfl, rfl, h0, h1⟩ := trodAll_two hA
  obtain rfl : args = #[v0, v1] := by cases args; simp_all
  obtain ⟨a, rfl, rfl, rfl⟩ := open_bool und4 (hval 0 4 v0 rfl rfl) h0
  obtain ⟨b, rfl, rfl, rfl⟩ := open_bool und4 (hval 1 4 v1 rfl rfl) h1
  obtain ⟨rfl, rfl⟩ := trodVars_none hV0
  have e1 : Rows.fillRingSpec.fn H ([.lit (.bool a), .lit (.bool b)] ++ []) = { results := [.lit (.bool true)], args := [.lit (.bool a), .lit (.bool b)] } := by simp [Rows.fillRingSpec]
  refine (walk a b W (rows_of_laid hL hsh)).mono fun e W' ⟨he, hw⟩ => ?_
  subst he
  refine ⟨_, rfl, _, _, _, [], [], [], hW', ?_, ?_, ?_, hw.kept _, fun h => by cases h⟩
  · rw [e1]; exact trodAll_mk1 (shut_bool und4 true)
  · rw [e1]; exact trodAll_mk2 (shut_bool und4 a) (shut_bool und4 b)
  · rw [e1]; rfl

end Go.Proofs.YtbbpbklbmoeocaaGreatDoor
