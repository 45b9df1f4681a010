/-
  A closed law, reckoned by the kernel through the evaluator: part S4FT. (The conditions stand in the row and the card that are given.) Written by an AI agent for this claim.
-/
import Derived.Test.YtbbpbklbmoeocaaGreatDoorS3
set_option linter.unusedVariables false
set_option linter.unusedSimpArgs false
namespace Go.Proofs.YtbbpbklbmoeocaaGreatDoor
open Go Go.Abs Go.Abs.F
def kFT : Known := { f := 3, args := [.bool false, .bool true], gs := gs, nx0 := 3, v := .bool true, row := none }
theorem kFT_chk : kFT.chk (run C M2 100000000 kFT.f kFT.args (gHeap kFT.gs) kFT.nx0) = true := by kernel_rfl
theorem kFT_ok : RcOk C.P C.G kFT.rc := known_ok (run_rc extOk namesOk mix M2_ok 100000000) (by decide +kernel) kFT_chk
theorem kFT_at : kFT.rc 3 [.bool false, .bool true] (gHeap gs) C.G = some (.bool true, gHeap gs, C.G) := by kernel_rfl
end Go.Proofs.YtbbpbklbmoeocaaGreatDoor
