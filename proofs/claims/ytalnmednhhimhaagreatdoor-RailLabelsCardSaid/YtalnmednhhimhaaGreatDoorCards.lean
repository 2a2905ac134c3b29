/-
  DERIVED. GIVEN WITH THE SEED: THE CARDS: each row of YtalnmednhhimhaaGreatDoorRows.lean that lists a variable, with what it lists TIED to the program's text (the seventh form; the later family's looks); each row that meets fmt, with fmt's text TOLD by the authors' own Lean function (tested against real Go, not proved from fmt's source: count such statements apart). THE CARD IS WHAT COUNTS. Prove the row's statement (the work); the ties are given (YtalnmednhhimhaaGreatDoorTie.lean); close each card by the builder's one call (the guide's Derived/Test/ToyasCard.lean, 'card_holds'). Laid BY PROGRAM, IN A SANDBOX (cutbox-door.mjs). By AI agents, Wed Nov 11 2026. No macro, syntax, notation, axiom, sorry.
-/
import Derived.Test.YtalnmednhhimhaaGreatDoorRows
import GoSem.ClaimSeven
namespace Go.Proofs.YtalnmednhhimhaaGreatDoor
namespace Rows

/-- THE TIED CARD OF 'bonsailaw31.RailPieces'. -/
def railPiecesCard : Claim7 := { stood := { row := railPiecesRow, standIns := [], harness := (true, "45c045d3a32eff86f8b9b4b3d1667c26bfbb749189642d56cfd74d8034276296"), looks := false }, kinds := [], alts := [], laidByText := true, laidKinds := [.data, .data, .data, .data], laidTests := true, laidLooks := .later }
def RailPiecesCardSaid : Prop := Claim7.holds Tryz.pinned (.plain (OpenSpec.ofChange railPiecesSpec)) railPiecesCard

/-- THE TIED CARD OF 'bonsailaw31.RailDraws'. -/
def railDrawsCard : Claim7 := { stood := { row := railDrawsRow, standIns := [], harness := (true, "45c045d3a32eff86f8b9b4b3d1667c26bfbb749189642d56cfd74d8034276296"), looks := false }, kinds := [], alts := [], laidByText := true, laidKinds := [.data, .data, .data, .data], laidTests := true, laidLooks := .later }
def RailDrawsCardSaid : Prop := Claim7.holds Tryz.pinned (.plain (OpenSpec.ofChange railDrawsSpec)) railDrawsCard

/-- THE TIED CARD OF 'bonsailaw31.RailLabels'. -/
def railLabelsCard : Claim7 := { stood := { row := railLabelsRow, standIns := [], harness := (true, "45c045d3a32eff86f8b9b4b3d1667c26bfbb749189642d56cfd74d8034276296"), looks := false }, kinds := [], alts := [], laidByText := true, laidKinds := [.data, .data, .data, .data], laidTests := true, laidLooks := .later }
def RailLabelsCardSaid : Prop := Claim7.holds Tryz.pinned (.plain (OpenSpec.ofChange railLabelsSpec)) railLabelsCard

/-- THE SECOND FORM's CARD OF 'bonsailaw31.RailPieces'. -/
def railPiecesUptoCard : Claim7 := { stood := { row := railPiecesUptoRow, standIns := [], harness := (true, "45c045d3a32eff86f8b9b4b3d1667c26bfbb749189642d56cfd74d8034276296"), looks := false }, kinds := [], alts := [], laidByText := true, laidKinds := [.data, .data, .data, .data], laidTests := true, laidLooks := .later }
def RailPiecesUptoCardSaid : Prop := Claim7.holds Tryz.pinned (.plain (OpenSpec.upto railPiecesSpec)) railPiecesUptoCard

/-- THE SECOND FORM's CARD OF 'bonsailaw31.RailDraws'. -/
def railDrawsUptoCard : Claim7 := { stood := { row := railDrawsUptoRow, standIns := [], harness := (true, "45c045d3a32eff86f8b9b4b3d1667c26bfbb749189642d56cfd74d8034276296"), looks := false }, kinds := [], alts := [], laidByText := true, laidKinds := [.data, .data, .data, .data], laidTests := true, laidLooks := .later }
def RailDrawsUptoCardSaid : Prop := Claim7.holds Tryz.pinned (.plain (OpenSpec.upto railDrawsSpec)) railDrawsUptoCard

/-- THE SECOND FORM's CARD OF 'bonsailaw31.RailLabels'. -/
def railLabelsUptoCard : Claim7 := { stood := { row := railLabelsUptoRow, standIns := [], harness := (true, "45c045d3a32eff86f8b9b4b3d1667c26bfbb749189642d56cfd74d8034276296"), looks := false }, kinds := [], alts := [], laidByText := true, laidKinds := [.data, .data, .data, .data], laidTests := true, laidLooks := .later }
def RailLabelsUptoCardSaid : Prop := Claim7.holds Tryz.pinned (.plain (OpenSpec.upto railLabelsSpec)) railLabelsUptoCard
end Rows
end Go.Proofs.YtalnmednhhimhaaGreatDoor
