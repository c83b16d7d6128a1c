/-
  DERIVED. GIVEN WITH THE SEED: THE CARDS: each row of YtplkchmcojnimaaGreatDoorRows.lean that lists a variable, with what it lists TIED to the program's text (the seventh form; the later family's looks); each row that meets fmt, with fmt's text TOLD by the authors' own Lean function (tested against real Go, not proved from fmt's source: count such statements apart). THE CARD IS WHAT COUNTS. Prove the row's statement (the work); the ties are given (YtplkchmcojnimaaGreatDoorTie.lean); close each card by the builder's one call (the guide's Derived/Test/ToyasCard.lean, 'card_holds'). Laid BY PROGRAM, IN A SANDBOX (cutbox-door.mjs). By AI agents, Wed Nov 11 2026. No macro, syntax, notation, axiom, sorry.
-/
import Derived.Test.YtplkchmcojnimaaGreatDoorRows
import GoSem.ClaimSeven
namespace Go.Proofs.YtplkchmcojnimaaGreatDoor
namespace Rows

/-- THE TIED CARD OF 'wefttop.TopKept'. -/
def topKeptCard : Claim7 := { stood := { row := topKeptRow, standIns := [], harness := (true, "eef8305cf5fa47eb9db2171b654e5827d47903c6e2e4fb9d280ccead90e3d1e6"), looks := true }, kinds := [], alts := [], laidByText := true, laidKinds := [.data, .data, .data, .data, .sentinel, .sentinel, .pinned], laidTests := true, laidLooks := .later }
def TopKeptCardSaid : Prop := Claim7.holds Tryz.pinned (.plain (OpenSpec.ofChange topKeptSpec)) topKeptCard

/-- THE TIED CARD OF 'wefttop.TopAnyKept'. -/
def topAnyKeptCard : Claim7 := { stood := { row := topAnyKeptRow, standIns := [], harness := (true, "eef8305cf5fa47eb9db2171b654e5827d47903c6e2e4fb9d280ccead90e3d1e6"), looks := true }, kinds := [], alts := [], laidByText := true, laidKinds := [.data, .data, .data, .data, .sentinel, .sentinel, .pinned], laidTests := true, laidLooks := .later }
def TopAnyKeptCardSaid : Prop := Claim7.holds Tryz.pinned (.plain (OpenSpec.ofChange topAnyKeptSpec)) topAnyKeptCard

/-- THE SECOND FORM's CARD OF 'wefttop.TopKept'. -/
def topKeptUptoCard : Claim7 := { stood := { row := topKeptUptoRow, standIns := [], harness := (true, "eef8305cf5fa47eb9db2171b654e5827d47903c6e2e4fb9d280ccead90e3d1e6"), looks := true }, kinds := [], alts := [], laidByText := true, laidKinds := [.data, .data, .data, .data, .sentinel, .sentinel, .pinned], laidTests := true, laidLooks := .later }
def TopKeptUptoCardSaid : Prop := Claim7.holds Tryz.pinned (.plain (OpenSpec.upto topKeptSpec)) topKeptUptoCard

/-- THE SECOND FORM's CARD OF 'wefttop.TopAnyKept'. -/
def topAnyKeptUptoCard : Claim7 := { stood := { row := topAnyKeptUptoRow, standIns := [], harness := (true, "eef8305cf5fa47eb9db2171b654e5827d47903c6e2e4fb9d280ccead90e3d1e6"), looks := true }, kinds := [], alts := [], laidByText := true, laidKinds := [.data, .data, .data, .data, .sentinel, .sentinel, .pinned], laidTests := true, laidLooks := .later }
def TopAnyKeptUptoCardSaid : Prop := Claim7.holds Tryz.pinned (.plain (OpenSpec.upto topAnyKeptSpec)) topAnyKeptUptoCard
end Rows
end Go.Proofs.YtplkchmcojnimaaGreatDoor
