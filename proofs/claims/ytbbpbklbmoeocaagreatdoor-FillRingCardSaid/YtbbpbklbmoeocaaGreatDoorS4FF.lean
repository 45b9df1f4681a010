/-
  A closed law, reckoned by the kernel through the evaluator: part S4FF. (The conditions stand in the row and the card that are given.) Written by an AI agent for this claim.
-/
import Derived.Test.YtbbpbklbmoeocaaGreatDoorS3
set_option linter.unusedVariables false
set_option linter.unusedSimpArgs false
namespace Go.Proofs.YtbbpbklbmoeocaaGreatDoor
open Go Go.Abs Go.Abs.F
def kFF : Known := { f := 3, args := [.bool false, .bool false], gs := gs, nx0 := 3, v := .bool true, row := none }
theorem kFF_chk : kFF.chk (run C M2 100000000 kFF.f kFF.args (gHeap kFF.gs) kFF.nx0) = true := by kernel_rfl
theorem kFF_ok : RcOk C.P C.G kFF.rc := known_ok (run_rc extOk namesOk mix M2_ok 100000000) (by decide +kernel) kFF_chk
theorem kFF_at : kFF.rc 3 [.bool false, .bool false] (gHeap gs) C.G = some (.bool true, gHeap gs, C.G) := by kernel_rfl
end Go.Proofs.YtbbpbklbmoeocaaGreatDoor
