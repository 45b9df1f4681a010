/-
  A closed law, reckoned by the kernel through the evaluator: part S6b. (The conditions stand in the row and the card that are given.) Written by an AI agent for this claim.
-/
import Derived.Test.YtbbpbklbmoeocaaGreatDoorS1
import Derived.JoinedOf
set_option linter.unusedVariables false
set_option linter.unusedSimpArgs false
namespace Go.Proofs.YtbbpbklbmoeocaaGreatDoor
open Go
theorem fRec : (Rows.fillRingRow.recurses == Tryz.prog.recurses 3) = true := by kernel_rfl
theorem fNam : (Rows.fillRingRow.named == Tryz.prog.varsNamed 3) = true := by kernel_rfl
end Go.Proofs.YtbbpbklbmoeocaaGreatDoor
