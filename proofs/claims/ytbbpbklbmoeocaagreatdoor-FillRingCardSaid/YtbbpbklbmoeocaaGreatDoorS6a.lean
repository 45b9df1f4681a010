/-
  A closed law, reckoned by the kernel through the evaluator: part S6a. (The conditions stand in the row and the card that are given.) Written by an AI agent for this claim.
-/
import Derived.Test.YtbbpbklbmoeocaaGreatDoorS1
import Derived.JoinedOf
set_option linter.unusedVariables false
set_option linter.unusedSimpArgs false
namespace Go.Proofs.YtbbpbklbmoeocaaGreatDoor
open Go
theorem fIn : (Rows.fillRingRow.inPlace == Tryz.prog.inPlace 3) = true := by kernel_rfl
theorem fUn : (Rows.fillRingRow.unfollowed == Tryz.prog.unfollowed 3) = true := by kernel_rfl
end Go.Proofs.YtbbpbklbmoeocaaGreatDoor
