/-
  A closed law, reckoned by the kernel through the evaluator: part S6c. (The conditions stand in the row and the card that are given.) Written by an AI agent for this claim.
-/
import Derived.Test.YtbbpbklbmoeocaaGreatDoorS1
import Derived.JoinedOf
import Derived.Test.YtbbpbklbmoeocaaGreatDoorCards
import Derived.SevenTiedAt
set_option linter.unusedVariables false
set_option linter.unusedSimpArgs false
namespace Go.Proofs.YtbbpbklbmoeocaaGreatDoor
open Go
theorem fWf : Rows.fillRingRow.wf (OpenSpec.ofChange Rows.fillRingSpec) = true := by kernel_rfl
theorem fLaid : laidOutB Tryz.prog = true := by kernel_rfl
theorem fMaps : mapsRowed Tryz.prog = true := by kernel_rfl
theorem fPlain : (Rows.fillRingRow.plainKeys == Tryz.prog.plainKeys) = true := by kernel_rfl
theorem fHeard : Tryz.prog.stopsHeard = true := by kernel_rfl
theorem fEnter : Tryz.prog.mayEnter = true := by kernel_rfl
theorem fLift : (Rows.fillRingRow.lifted == Tryz.prog.liftsFinal) = true := by kernel_rfl
theorem fMake : (Tryz.prog.make == some Rows.fillRingRow.make) = true := by kernel_rfl
theorem fStops : (Tryz.prog.stops == []) = true := by kernel_rfl
theorem fKnobs : (Tryz.prog.stopKnobs == []) = true := by kernel_rfl
theorem fNamed : Tryz.prog.funcNamed Rows.fillRingRow.func = some 3 := by kernel_rfl
theorem fLooks : Tryz.prog.looks [] = false := by kernel_rfl
theorem fGoesAll : (Tryz.prog.funcs.toList.any Func.goes) = false := by kernel_rfl
theorem goes_none {P : Program} {f : FuncId} (h : (P.funcs.toList.any Func.goes) = false) : P.goes f = false := by
  have hf : ∀ (g : FuncId) (fn : Func), P.funcs[g]? = some fn → fn.goes = false := by
    intro g fn hg
    rw [List.any_eq_false] at h
    have hm : fn ∈ P.funcs.toList := by
      rw [← Array.getElem?_toList] at hg
      exact List.mem_of_getElem? hg
    simpa using h fn hm
  unfold Program.goes
  have h1 : ((P.closure f).any fun g => (P.funcs[g]?).any Func.goes) = false := by
    rw [List.any_eq_false]
    intro g _
    cases hg : P.funcs[g]? with
    | none => simp
    | some fn => simp [hf g fn hg]
  have h2 : P.funcs.any Func.goes = false := by rw [← Array.any_toList]; exact h
  rw [h1, h2]; simp
theorem fGoes : false = Rows.fillRingRow.goesBy Tryz.prog := by
  have h : Tryz.prog.goesAt .entering Rows.fillRingRow.func = false := by
    unfold Program.goesAt Program.goesFrom
    rw [fNamed]
    simp [goes_none fGoesAll]
  exact h.symm
theorem fStand : Tryz.prog.wantsStandIn 4 = false := by kernel_rfl
theorem fMain : Tryz.prog.mainIs = some (true, "160df589209e392c43d28b0cd2e05aca179599bbdb478f1702629bc225688eae".toList) := by kernel_rfl
end Go.Proofs.YtbbpbklbmoeocaaGreatDoor
