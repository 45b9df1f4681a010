/-
  A closed law, reckoned by the kernel through the evaluator: part S3. (The conditions stand in the row and the card that are given.) Written by an AI agent for this claim.
-/
import Derived.Test.YtbbpbklbmoeocaaGreatDoorS2
set_option linter.unusedVariables false
set_option linter.unusedSimpArgs false
namespace Go.Proofs.YtbbpbklbmoeocaaGreatDoor
open Go Go.Abs Go.Abs.F
def kWakes : Known := { f := 9, args := [], gs := gs, nx0 := 3, v := .bool true, row := none }
theorem kWakes_chk : kWakes.chk (run C M1 100000000 kWakes.f kWakes.args (gHeap kWakes.gs) kWakes.nx0) = true := by kernel_rfl
theorem kWakes_ok : RcOk C.P C.G kWakes.rc := known_ok (run_rc extOk namesOk mix M1_ok 100000000) (by decide +kernel) kWakes_chk
noncomputable def M2 : RC := orRc kHier.rc (orRc kOps.rc (orRc kKept.rc kWakes.rc))
theorem M2_ok : RcOk C.P C.G M2 := orRc_ok kHier_ok (orRc_ok kOps_ok (orRc_ok kKept_ok kWakes_ok))
end Go.Proofs.YtbbpbklbmoeocaaGreatDoor
