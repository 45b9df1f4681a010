/-
  A closed law, reckoned by the kernel through the evaluator: part S7. (The conditions stand in the row and the card that are given.) Written by an AI agent for this claim.
-/
import Derived.Test.YtbbpbklbmoeocaaGreatDoorS4FT
import Derived.Test.YtbbpbklbmoeocaaGreatDoorS4FF
import Derived.Test.YtbbpbklbmoeocaaGreatDoorS4TT
import Derived.Test.YtbbpbklbmoeocaaGreatDoorS4TF
import Derived.Test.YtbbpbklbmoeocaaGreatDoorS5
import Derived.Test.YtbbpbklbmoeocaaGreatDoorS6a
import Derived.Test.YtbbpbklbmoeocaaGreatDoorS6b
import Derived.Test.YtbbpbklbmoeocaaGreatDoorS6c
set_option linter.unusedVariables false
set_option linter.unusedSimpArgs false
namespace Go.Proofs.YtbbpbklbmoeocaaGreatDoor
open Go Go.Abs Go.Abs.F
theorem band {a b : Bool} (ha : a = true) (hb : b = true) : (a && b) = true := by rw [ha, hb]; rfl
theorem closed : joinedFacts Tryz.prog 3 Tryz.f3 Rows.fillRingSpec Rows.fillRingRow = true :=
  band (band (band (band (band (band (band (band (band (band (band (band (band (band (band (band (band (band (band (band (band (band (band (band (band (band (band (band (band (band (band fWf fLaid) fMaps) (by kernel_rfl)) (by kernel_rfl)) (by kernel_rfl)) fStops) (by kernel_rfl)) fKnobs) fIn) fUn) fRec) fNam) (by kernel_rfl)) (by kernel_rfl)) (by kernel_rfl)) (by kernel_rfl)) (by kernel_rfl)) (by kernel_rfl)) (by kernel_rfl)) (by kernel_rfl)) (by kernel_rfl)) fPlain) (by kernel_rfl)) fHeard) fEnter) fLift) fMake) (by kernel_rfl)) (by kernel_rfl)) (by kernel_rfl)) (by kernel_rfl)

theorem args_VR (φ : Ren) (a b : Bool) : VRs φ [.bool a, .bool b] (#[.bool a, .bool b] : Array Value).toList := VRs.cons (.bool a) (VRs.cons (.bool b) VRs.nil)
theorem walk : Walk := by
  intro a b W hW
  cases a with
  | false => cases b with
    | false => exact closed_holds kFF_ok kFF_at gsOk gsInt (fun φ => args_VR φ false false) hW
    | true => exact closed_holds kFT_ok kFT_at gsOk gsInt (fun φ => args_VR φ false true) hW
  | true => cases b with
    | false => exact closed_holds kTF_ok kTF_at gsOk gsInt (fun φ => args_VR φ true false) hW
    | true => exact closed_holds kTT_ok kTT_at gsOk gsInt (fun φ => args_VR φ true true) hW

theorem row_holds : Rows.FillRingSaid :=
  OpenClaim.holds_of_wide 3 Tryz.f3 rfl rfl rfl rfl rfl rfl rfl ⟨rfl, rfl, rfl, rfl, rfl⟩ rfl rfl rfl rfl rfl fNamed Tryz.func3 closed
    (of_decide_eq_true (by kernel_rfl)) (by unfold Func.isWrapper; rw [if_neg (of_decide_eq_false (by kernel_rfl))]; exact ⟨rfl, rfl⟩)
    (fun os started H enc _ => law_lifted walk os started H enc)

theorem card_holds : Rows.FillRingCardSaid :=
  Claim7.holds_tied_plain_at .later [] [.listed, .data] true (true, "160df589209e392c43d28b0cd2e05aca179599bbdb478f1702629bc225688eae") false
    row_holds (fun _ h => by cases h) (by kernel_rfl) (fun _ h => by cases h) fillRing_row_tie rfl ⟨rfl, rfl⟩ fMain rfl
    (fun f fn hf hfn => by
      obtain rfl : f = 3 := Option.some.inj (hf.symm.trans fNamed)
      obtain rfl : Tryz.f3 = fn := Option.some.inj (Tryz.func3.symm.trans hfn)
      refine ⟨fLooks.symm, fun j t ht => ?_⟩
      rw [Tryz.params3] at ht
      have h4 : t = 4 := by
        rcases j with _ | _ | j
        · simpa using ht.symm
        · simpa using ht.symm
        · simp at ht
      subst h4
      exact fStand) fGoes
#print axioms card_holds
end Go.Proofs.YtbbpbklbmoeocaaGreatDoor
