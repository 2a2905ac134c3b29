/-
  DERIVED. GIVEN WITH THE SEED: THE CARDS: each row of YtpbichnnflabdaaGreatDoorRows.lean that lists a variable, with what it lists TIED to the program's text (the seventh form; the later family's looks); each row that meets fmt, with fmt's text TOLD by the authors' own Lean function (tested against real Go, not proved from fmt's source: count such statements apart). THE CARD IS WHAT COUNTS. Prove the row's statement (the work); the ties are given (YtpbichnnflabdaaGreatDoorTie.lean); close each card by the builder's one call (the guide's Derived/Test/ToyasCard.lean, 'card_holds'). Laid BY PROGRAM, IN A SANDBOX (cutbox-door.mjs). By AI agents, Wed Nov 11 2026. No macro, syntax, notation, axiom, sorry.
-/
import Derived.Test.YtpbichnnflabdaaGreatDoorRows
import GoSem.ClaimSeven
namespace Go.Proofs.YtpbichnnflabdaaGreatDoor
namespace Rows

/-- THE TIED CARD OF 'bonsailaw24.FuseEnd'. -/
def fuseEndCard : Claim7 := { stood := { row := fuseEndRow, standIns := [], harness := (true, "261646ac44af3a5509ab41c83a1ad89ad70877b4f4c8bd133ed783bfceeb2e4e"), looks := false }, kinds := [], alts := [], laidByText := true, laidKinds := [.data, .data, .data, .data, .data, .data], laidTests := true, laidLooks := .later }
def FuseEndCardSaid : Prop := Claim7.holds Tryz.pinned (.plain (OpenSpec.ofChange fuseEndSpec)) fuseEndCard

/-- THE TIED CARD OF 'bonsailaw24.FuseLess'. -/
def fuseLessCard : Claim7 := { stood := { row := fuseLessRow, standIns := [], harness := (true, "261646ac44af3a5509ab41c83a1ad89ad70877b4f4c8bd133ed783bfceeb2e4e"), looks := false }, kinds := [], alts := [], laidByText := true, laidKinds := [.data, .data, .data, .data, .data, .data], laidTests := true, laidLooks := .later }
def FuseLessCardSaid : Prop := Claim7.holds Tryz.pinned (.plain (OpenSpec.ofChange fuseLessSpec)) fuseLessCard

/-- THE TIED CARD OF 'bonsailaw20.DeadEnd'. -/
def deadEndCard : Claim7 := { stood := { row := deadEndRow, standIns := [], harness := (true, "261646ac44af3a5509ab41c83a1ad89ad70877b4f4c8bd133ed783bfceeb2e4e"), looks := false }, kinds := [], alts := [], laidByText := true, laidKinds := [.data, .data, .data, .data, .data, .data], laidTests := true, laidLooks := .later }
def DeadEndCardSaid : Prop := Claim7.holds Tryz.pinned (.plain (OpenSpec.ofChange deadEndSpec)) deadEndCard

/-- THE TIED CARD OF 'bonsailaw20.DeadLess'. -/
def deadLessCard : Claim7 := { stood := { row := deadLessRow, standIns := [], harness := (true, "261646ac44af3a5509ab41c83a1ad89ad70877b4f4c8bd133ed783bfceeb2e4e"), looks := false }, kinds := [], alts := [], laidByText := true, laidKinds := [.data, .data, .data, .data, .data, .data], laidTests := true, laidLooks := .later }
def DeadLessCardSaid : Prop := Claim7.holds Tryz.pinned (.plain (OpenSpec.ofChange deadLessSpec)) deadLessCard

/-- THE TIED CARD OF 'bonsailaw20.DeadRow'. -/
def deadRowCard : Claim7 := { stood := { row := deadRowRow, standIns := [], harness := (true, "261646ac44af3a5509ab41c83a1ad89ad70877b4f4c8bd133ed783bfceeb2e4e"), looks := false }, kinds := [], alts := [], laidByText := true, laidKinds := [.data, .data, .data, .data, .data, .data], laidTests := true, laidLooks := .later }
def DeadRowCardSaid : Prop := Claim7.holds Tryz.pinned (.plain (OpenSpec.ofChange deadRowSpec)) deadRowCard

/-- THE SECOND FORM's CARD OF 'bonsailaw24.FuseEnd'. -/
def fuseEndUptoCard : Claim7 := { stood := { row := fuseEndUptoRow, standIns := [], harness := (true, "261646ac44af3a5509ab41c83a1ad89ad70877b4f4c8bd133ed783bfceeb2e4e"), looks := false }, kinds := [], alts := [], laidByText := true, laidKinds := [.data, .data, .data, .data, .data, .data], laidTests := true, laidLooks := .later }
def FuseEndUptoCardSaid : Prop := Claim7.holds Tryz.pinned (.plain (OpenSpec.upto fuseEndSpec)) fuseEndUptoCard

/-- THE SECOND FORM's CARD OF 'bonsailaw24.FuseLess'. -/
def fuseLessUptoCard : Claim7 := { stood := { row := fuseLessUptoRow, standIns := [], harness := (true, "261646ac44af3a5509ab41c83a1ad89ad70877b4f4c8bd133ed783bfceeb2e4e"), looks := false }, kinds := [], alts := [], laidByText := true, laidKinds := [.data, .data, .data, .data, .data, .data], laidTests := true, laidLooks := .later }
def FuseLessUptoCardSaid : Prop := Claim7.holds Tryz.pinned (.plain (OpenSpec.upto fuseLessSpec)) fuseLessUptoCard

/-- THE SECOND FORM's CARD OF 'bonsailaw20.DeadEnd'. -/
def deadEndUptoCard : Claim7 := { stood := { row := deadEndUptoRow, standIns := [], harness := (true, "261646ac44af3a5509ab41c83a1ad89ad70877b4f4c8bd133ed783bfceeb2e4e"), looks := false }, kinds := [], alts := [], laidByText := true, laidKinds := [.data, .data, .data, .data, .data, .data], laidTests := true, laidLooks := .later }
def DeadEndUptoCardSaid : Prop := Claim7.holds Tryz.pinned (.plain (OpenSpec.upto deadEndSpec)) deadEndUptoCard

/-- THE SECOND FORM's CARD OF 'bonsailaw20.DeadLess'. -/
def deadLessUptoCard : Claim7 := { stood := { row := deadLessUptoRow, standIns := [], harness := (true, "261646ac44af3a5509ab41c83a1ad89ad70877b4f4c8bd133ed783bfceeb2e4e"), looks := false }, kinds := [], alts := [], laidByText := true, laidKinds := [.data, .data, .data, .data, .data, .data], laidTests := true, laidLooks := .later }
def DeadLessUptoCardSaid : Prop := Claim7.holds Tryz.pinned (.plain (OpenSpec.upto deadLessSpec)) deadLessUptoCard

/-- THE SECOND FORM's CARD OF 'bonsailaw20.DeadRow'. -/
def deadRowUptoCard : Claim7 := { stood := { row := deadRowUptoRow, standIns := [], harness := (true, "261646ac44af3a5509ab41c83a1ad89ad70877b4f4c8bd133ed783bfceeb2e4e"), looks := false }, kinds := [], alts := [], laidByText := true, laidKinds := [.data, .data, .data, .data, .data, .data], laidTests := true, laidLooks := .later }
def DeadRowUptoCardSaid : Prop := Claim7.holds Tryz.pinned (.plain (OpenSpec.upto deadRowSpec)) deadRowUptoCard
end Rows
end Go.Proofs.YtpbichnnflabdaaGreatDoor
