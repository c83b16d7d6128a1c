/-
  DERIVED. GIVEN WITH THE SEED: THE CARDS: each row of YtgennilhbedmoaaGreatDoorRows.lean that lists a variable, with what it lists TIED to the program's text (the seventh form; the later family's looks); each row that meets fmt, with fmt's text TOLD by the authors' own Lean function (tested against real Go, not proved from fmt's source: count such statements apart). THE CARD IS WHAT COUNTS. Prove the row's statement (the work); the ties are given (YtgennilhbedmoaaGreatDoorTie.lean); close each card by the builder's one call (the guide's Derived/Test/ToyasCard.lean, 'card_holds'). Laid BY PROGRAM, IN A SANDBOX (cutbox-door.mjs). By AI agents, Wed Nov 11 2026. No macro, syntax, notation, axiom, sorry.
-/
import Derived.Test.YtgennilhbedmoaaGreatDoorRows
import GoSem.ClaimSeven
namespace Go.Proofs.YtgennilhbedmoaaGreatDoor
namespace Rows

/-- THE TIED CARD OF 'weftkeep1.NumField'. -/
def numFieldCard : Claim7 := { stood := { row := numFieldRow, standIns := [], harness := (true, "82b88ee8b50d92b7e105924d632d5cc88cd6b088525fd85049c0fc36b8132704"), looks := true }, kinds := [], alts := [], laidByText := true, laidKinds := [.data, .data, .data, .data, .sentinel, .sentinel, .pinned], laidTests := true, laidLooks := .later }
def NumFieldCardSaid : Prop := Claim7.holds Tryz.pinned (.plain (OpenSpec.ofChange numFieldSpec)) numFieldCard

/-- THE SECOND FORM's CARD OF 'weftkeep1.NumField'. -/
def numFieldUptoCard : Claim7 := { stood := { row := numFieldUptoRow, standIns := [], harness := (true, "82b88ee8b50d92b7e105924d632d5cc88cd6b088525fd85049c0fc36b8132704"), looks := true }, kinds := [], alts := [], laidByText := true, laidKinds := [.data, .data, .data, .data, .sentinel, .sentinel, .pinned], laidTests := true, laidLooks := .later }
def NumFieldUptoCardSaid : Prop := Claim7.holds Tryz.pinned (.plain (OpenSpec.upto numFieldSpec)) numFieldUptoCard
end Rows
end Go.Proofs.YtgennilhbedmoaaGreatDoor
