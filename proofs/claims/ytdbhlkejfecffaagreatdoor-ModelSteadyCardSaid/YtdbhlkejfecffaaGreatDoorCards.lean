/-
  DERIVED. GIVEN WITH THE SEED: THE CARDS: each row of YtdbhlkejfecffaaGreatDoorRows.lean that lists a variable, with what it lists TIED to the program's text (the seventh form; the later family's looks); each row that meets fmt, with fmt's text TOLD by the authors' own Lean function (tested against real Go, not proved from fmt's source: count such statements apart). THE CARD IS WHAT COUNTS. Prove the row's statement (the work); the ties are given (YtdbhlkejfecffaaGreatDoorTie.lean); close each card by the builder's one call (the guide's Derived/Test/ToyasCard.lean, 'card_holds'). Laid BY PROGRAM, IN A SANDBOX (cutbox-door.mjs). By AI agents, Wed Nov 11 2026. No macro, syntax, notation, axiom, sorry.
-/
import Derived.Test.YtdbhlkejfecffaaGreatDoorRows
import GoSem.ClaimSeven
namespace Go.Proofs.YtdbhlkejfecffaaGreatDoor
namespace Rows

/-- THE TIED CARD OF 'weftkeep1.ModelSteady'. -/
def modelSteadyCard : Claim7 := { stood := { row := modelSteadyRow, standIns := [], harness := (true, "47b7e4162d7b9a33d1b96bf8ec5dc50b42b0b785bb56ef8454114a9dd0431ccb"), looks := true }, kinds := [], alts := [], laidByText := true, laidKinds := [.data, .data, .data, .data, .pinned], laidTests := true, laidLooks := .later }
def ModelSteadyCardSaid : Prop := Claim7.holds Tryz.pinned (.plain (OpenSpec.ofChange modelSteadySpec)) modelSteadyCard

/-- THE SECOND FORM's CARD OF 'weftkeep1.ModelSteady'. -/
def modelSteadyUptoCard : Claim7 := { stood := { row := modelSteadyUptoRow, standIns := [], harness := (true, "47b7e4162d7b9a33d1b96bf8ec5dc50b42b0b785bb56ef8454114a9dd0431ccb"), looks := true }, kinds := [], alts := [], laidByText := true, laidKinds := [.data, .data, .data, .data, .pinned], laidTests := true, laidLooks := .later }
def ModelSteadyUptoCardSaid : Prop := Claim7.holds Tryz.pinned (.plain (OpenSpec.upto modelSteadySpec)) modelSteadyUptoCard
end Rows
end Go.Proofs.YtdbhlkejfecffaaGreatDoor
