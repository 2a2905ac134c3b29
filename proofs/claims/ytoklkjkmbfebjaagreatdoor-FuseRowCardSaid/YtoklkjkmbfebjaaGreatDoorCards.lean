/-
  DERIVED. GIVEN WITH THE SEED: THE CARDS: each row of YtoklkjkmbfebjaaGreatDoorRows.lean that lists a variable, with what it lists TIED to the program's text (the seventh form; the later family's looks); each row that meets fmt, with fmt's text TOLD by the authors' own Lean function (tested against real Go, not proved from fmt's source: count such statements apart). THE CARD IS WHAT COUNTS. Prove the row's statement (the work); the ties are given (YtoklkjkmbfebjaaGreatDoorTie.lean); close each card by the builder's one call (the guide's Derived/Test/ToyasCard.lean, 'card_holds'). Laid BY PROGRAM, IN A SANDBOX (cutbox-door.mjs). By AI agents, Wed Nov 11 2026. No macro, syntax, notation, axiom, sorry.
-/
import Derived.Test.YtoklkjkmbfebjaaGreatDoorRows
import GoSem.ClaimSeven
namespace Go.Proofs.YtoklkjkmbfebjaaGreatDoor
namespace Rows

/-- THE TIED CARD OF 'bonsailaw24.FuseRow'. -/
def fuseRowCard : Claim7 := { stood := { row := fuseRowRow, standIns := [], harness := (true, "6d8382996c6101af6494f63bf0efe1eeb7593645525c370a0023bec41ed4c103"), looks := false }, kinds := [], alts := [], laidByText := true, laidKinds := [.data, .data, .data, .data, .data, .data], laidTests := true, laidLooks := .later }
def FuseRowCardSaid : Prop := Claim7.holds Tryz.pinned (.plain (OpenSpec.ofChange fuseRowSpec)) fuseRowCard

/-- THE SECOND FORM's CARD OF 'bonsailaw24.FuseRow'. -/
def fuseRowUptoCard : Claim7 := { stood := { row := fuseRowUptoRow, standIns := [], harness := (true, "6d8382996c6101af6494f63bf0efe1eeb7593645525c370a0023bec41ed4c103"), looks := false }, kinds := [], alts := [], laidByText := true, laidKinds := [.data, .data, .data, .data, .data, .data], laidTests := true, laidLooks := .later }
def FuseRowUptoCardSaid : Prop := Claim7.holds Tryz.pinned (.plain (OpenSpec.upto fuseRowSpec)) fuseRowUptoCard
end Rows
end Go.Proofs.YtoklkjkmbfebjaaGreatDoor
