/-
  A closed law, reckoned by the kernel through the evaluator: part S4TF. (The conditions stand in the row and the card that are given.) Written by an AI agent for this claim.
-/
import Derived.Test.YtbbpbklbmoeocaaGreatDoorS3
set_option linter.unusedVariables false
set_option linter.unusedSimpArgs false
namespace Go.Proofs.YtbbpbklbmoeocaaGreatDoor
open Go Go.Abs Go.Abs.F
def kTF : Known := { f := 3, args := [.bool true, .bool false], gs := gs, nx0 := 3, v := .bool true, row := none }
theorem kTF_chk : kTF.chk (run C M2 100000000 kTF.f kTF.args (gHeap kTF.gs) kTF.nx0) = true := by kernel_rfl
theorem kTF_ok : RcOk C.P C.G kTF.rc := known_ok (run_rc extOk namesOk mix M2_ok 100000000) (by decide +kernel) kTF_chk
theorem kTF_at : kTF.rc 3 [.bool true, .bool false] (gHeap gs) C.G = some (.bool true, gHeap gs, C.G) := by kernel_rfl
end Go.Proofs.YtbbpbklbmoeocaaGreatDoor
