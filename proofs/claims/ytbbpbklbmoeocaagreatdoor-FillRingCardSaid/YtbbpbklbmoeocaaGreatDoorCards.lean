/-
  DERIVED. GIVEN WITH THE SEED: THE CARDS: each row of YtbbpbklbmoeocaaGreatDoorRows.lean that lists a variable, with what it lists TIED to the program's text (the seventh form; the later family's looks); each row that meets fmt, with fmt's text TOLD by the authors' own Lean function (tested against real Go, not proved from fmt's source: count such statements apart). THE CARD IS WHAT COUNTS. Prove the row's statement (the work); the ties are given (YtbbpbklbmoeocaaGreatDoorTie.lean); close each card by the builder's one call (the guide's Derived/Test/ToyasCard.lean, 'card_holds'). Laid BY PROGRAM, IN A SANDBOX (cutbox-door.mjs). By AI agents, Wed Nov 11 2026. No macro, syntax, notation, axiom, sorry.
-/
import Derived.Test.YtbbpbklbmoeocaaGreatDoorRows
import GoSem.ClaimSeven
namespace Go.Proofs.YtbbpbklbmoeocaaGreatDoor
namespace Rows

/-- THE TIED CARD OF 'delverlaw23.FillRing'. -/
def fillRingCard : Claim7 := { stood := { row := fillRingRow, standIns := [], harness := (true, "160df589209e392c43d28b0cd2e05aca179599bbdb478f1702629bc225688eae"), looks := false }, kinds := [], alts := [], laidByText := true, laidKinds := [.listed, .data], laidTests := true, laidLooks := .later }
def FillRingCardSaid : Prop := Claim7.holds Tryz.pinned (.plain (OpenSpec.ofChange fillRingSpec)) fillRingCard

/-- THE SECOND FORM's CARD OF 'delverlaw23.FillRing'. -/
def fillRingUptoCard : Claim7 := { stood := { row := fillRingUptoRow, standIns := [], harness := (true, "160df589209e392c43d28b0cd2e05aca179599bbdb478f1702629bc225688eae"), looks := false }, kinds := [], alts := [], laidByText := true, laidKinds := [.listed, .data], laidTests := true, laidLooks := .later }
def FillRingUptoCardSaid : Prop := Claim7.holds Tryz.pinned (.plain (OpenSpec.upto fillRingSpec)) fillRingUptoCard
end Rows
end Go.Proofs.YtbbpbklbmoeocaaGreatDoor
