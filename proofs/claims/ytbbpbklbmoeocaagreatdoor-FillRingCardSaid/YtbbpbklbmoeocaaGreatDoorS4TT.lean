/-
  A closed law, reckoned by the kernel through the evaluator: part S4TT. (The conditions stand in the row and the card that are given.) Written by an AI agent for this claim.
-/
import Derived.Test.YtbbpbklbmoeocaaGreatDoorS3
set_option linter.unusedVariables false
set_option linter.unusedSimpArgs false
namespace Go.Proofs.YtbbpbklbmoeocaaGreatDoor
open Go Go.Abs Go.Abs.F
def kTT : Known := { f := 3, args := [.bool true, .bool true], gs := gs, nx0 := 3, v := .bool true, row := none }
theorem kTT_chk : kTT.chk (run C M2 100000000 kTT.f kTT.args (gHeap kTT.gs) kTT.nx0) = true := by kernel_rfl
theorem kTT_ok : RcOk C.P C.G kTT.rc := known_ok (run_rc extOk namesOk mix M2_ok 100000000) (by decide +kernel) kTT_chk
theorem kTT_at : kTT.rc 3 [.bool true, .bool true] (gHeap gs) C.G = some (.bool true, gHeap gs, C.G) := by kernel_rfl
end Go.Proofs.YtbbpbklbmoeocaaGreatDoor
