/-
  DERIVED. GIVEN WITH THE SEED: THE CARDS: each row of YtpmlighdpgbecaaGreatDoorRows.lean that lists a variable, with what it lists TIED to the program's text (the seventh form; the later family's looks); each row that meets fmt, with fmt's text TOLD by the authors' own Lean function (tested against real Go, not proved from fmt's source: count such statements apart). THE CARD IS WHAT COUNTS. Prove the row's statement (the work); the ties are given (YtpmlighdpgbecaaGreatDoorTie.lean); close each card by the builder's one call (the guide's Derived/Test/ToyasCard.lean, 'card_holds'). Laid BY PROGRAM, IN A SANDBOX (cutbox-door.mjs). By AI agents, Wed Nov 11 2026. No macro, syntax, notation, axiom, sorry.
-/
import Derived.Test.YtpmlighdpgbecaaGreatDoorRows
import GoSem.ClaimSeven
namespace Go.Proofs.YtpmlighdpgbecaaGreatDoor
namespace Rows

/-- THE TIED CARD OF 'foregonelaw31.FairRounds'. -/
def fairRoundsCard : Claim7 := { stood := { row := fairRoundsRow, standIns := [], harness := (true, "c6622161b8f17a3cf0c44fd9a0d493377c46537ee8aed44b3213cede24c04afb"), looks := false }, kinds := [], alts := [], laidByText := true, laidKinds := [.data, .data, .data, .sentinel], laidTests := true, laidLooks := .later }
def FairRoundsCardSaid : Prop := Claim7.holds Tryz.pinned (.plain (OpenSpec.ofChange fairRoundsSpec)) fairRoundsCard

/-- THE SECOND FORM's CARD OF 'foregonelaw31.FairRounds'. -/
def fairRoundsUptoCard : Claim7 := { stood := { row := fairRoundsUptoRow, standIns := [], harness := (true, "c6622161b8f17a3cf0c44fd9a0d493377c46537ee8aed44b3213cede24c04afb"), looks := false }, kinds := [], alts := [], laidByText := true, laidKinds := [.data, .data, .data, .sentinel], laidTests := true, laidLooks := .later }
def FairRoundsUptoCardSaid : Prop := Claim7.holds Tryz.pinned (.plain (OpenSpec.upto fairRoundsSpec)) fairRoundsUptoCard
end Rows
end Go.Proofs.YtpmlighdpgbecaaGreatDoor
