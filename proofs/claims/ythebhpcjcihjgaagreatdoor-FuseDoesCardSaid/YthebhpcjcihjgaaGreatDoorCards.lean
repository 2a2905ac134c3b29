/-
  DERIVED. GIVEN WITH THE SEED: THE CARDS: each row of YthebhpcjcihjgaaGreatDoorRows.lean that lists a variable, with what it lists TIED to the program's text (the seventh form; the later family's looks); each row that meets fmt, with fmt's text TOLD by the authors' own Lean function (tested against real Go, not proved from fmt's source: count such statements apart). THE CARD IS WHAT COUNTS. Prove the row's statement (the work); the ties are given (YthebhpcjcihjgaaGreatDoorTie.lean); close each card by the builder's one call (the guide's Derived/Test/ToyasCard.lean, 'card_holds'). Laid BY PROGRAM, IN A SANDBOX (cutbox-door.mjs). By AI agents, Wed Nov 11 2026. No macro, syntax, notation, axiom, sorry.
-/
import Derived.Test.YthebhpcjcihjgaaGreatDoorRows
import GoSem.ClaimSeven
namespace Go.Proofs.YthebhpcjcihjgaaGreatDoor
namespace Rows

/-- THE TIED CARD OF 'bonsailaw24.FuseDoes'. -/
def fuseDoesCard : Claim7 := { stood := { row := fuseDoesRow, standIns := [], harness := (true, "724dfa8cea3df9c1452189239b2b83e2a22094e67f73e1d2469a48f3d9adde59"), looks := false }, kinds := [], alts := [], laidByText := true, laidKinds := [.data, .data, .data, .data, .data, .data], laidTests := true, laidLooks := .later }
def FuseDoesCardSaid : Prop := Claim7.holds Tryz.pinned (.plain (OpenSpec.ofChange fuseDoesSpec)) fuseDoesCard

/-- THE SECOND FORM's CARD OF 'bonsailaw24.FuseDoes'. -/
def fuseDoesUptoCard : Claim7 := { stood := { row := fuseDoesUptoRow, standIns := [], harness := (true, "724dfa8cea3df9c1452189239b2b83e2a22094e67f73e1d2469a48f3d9adde59"), looks := false }, kinds := [], alts := [], laidByText := true, laidKinds := [.data, .data, .data, .data, .data, .data], laidTests := true, laidLooks := .later }
def FuseDoesUptoCardSaid : Prop := Claim7.holds Tryz.pinned (.plain (OpenSpec.upto fuseDoesSpec)) fuseDoesUptoCard
end Rows
end Go.Proofs.YthebhpcjcihjgaaGreatDoor
