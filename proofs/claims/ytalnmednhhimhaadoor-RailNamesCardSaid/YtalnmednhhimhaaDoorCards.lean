/-
  DERIVED. GIVEN WITH THE SEED: THE CARDS: each row of YtalnmednhhimhaaDoorRows.lean that lists a variable, with what it lists TIED to the program's text (the seventh form; the later family's looks); each row that meets fmt, with fmt's text TOLD by the authors' own Lean function (tested against real Go, not proved from fmt's source: count such statements apart). THE CARD IS WHAT COUNTS. Prove the row's statement (the work); the ties are given (YtalnmednhhimhaaDoorTie.lean); close each card by the builder's one call (the guide's Derived/Test/ToyasCard.lean, 'card_holds'). Laid BY PROGRAM, IN A SANDBOX (cutbox-door.mjs). By AI agents, Wed Nov 11 2026. No macro, syntax, notation, axiom, sorry.
-/
import Derived.Test.YtalnmednhhimhaaDoorRows
import GoSem.ClaimSeven
namespace Go.Proofs.YtalnmednhhimhaaDoor
namespace Rows

/-- THE TIED CARD OF 'bonsailaw31.RailWithin'. -/
def railWithinCard : Claim7 := { stood := { row := railWithinRow, standIns := [], harness := (true, "ad9a3f12fc5fe14aedafbb92ac5c852ad438dd788069709bf91cf2052ee650c5"), looks := false }, kinds := [], alts := [], laidByText := true, laidKinds := [.data, .data, .data, .data], laidTests := true, laidLooks := .later }
def RailWithinCardSaid : Prop := Claim7.holds Tryd.pinned (.plain (OpenSpec.ofChange railWithinSpec)) railWithinCard

/-- THE TIED CARD OF 'bonsailaw31.RailJoined'. -/
def railJoinedCard : Claim7 := { stood := { row := railJoinedRow, standIns := [], harness := (true, "ad9a3f12fc5fe14aedafbb92ac5c852ad438dd788069709bf91cf2052ee650c5"), looks := false }, kinds := [], alts := [], laidByText := true, laidKinds := [.data, .data, .data, .data], laidTests := true, laidLooks := .later }
def RailJoinedCardSaid : Prop := Claim7.holds Tryd.pinned (.plain (OpenSpec.ofChange railJoinedSpec)) railJoinedCard

/-- THE TIED CARD OF 'bonsailaw31.RailNames'. -/
def railNamesCard : Claim7 := { stood := { row := railNamesRow, standIns := [], harness := (true, "ad9a3f12fc5fe14aedafbb92ac5c852ad438dd788069709bf91cf2052ee650c5"), looks := false }, kinds := [], alts := [], laidByText := true, laidKinds := [.data, .data, .data, .data], laidTests := true, laidLooks := .later }
def RailNamesCardSaid : Prop := Claim7.holds Tryd.pinned (.plain (OpenSpec.ofChange railNamesSpec)) railNamesCard

/-- THE SECOND FORM's CARD OF 'bonsailaw31.RailWithin'. -/
def railWithinUptoCard : Claim7 := { stood := { row := railWithinUptoRow, standIns := [], harness := (true, "ad9a3f12fc5fe14aedafbb92ac5c852ad438dd788069709bf91cf2052ee650c5"), looks := false }, kinds := [], alts := [], laidByText := true, laidKinds := [.data, .data, .data, .data], laidTests := true, laidLooks := .later }
def RailWithinUptoCardSaid : Prop := Claim7.holds Tryd.pinned (.plain (OpenSpec.upto railWithinSpec)) railWithinUptoCard

/-- THE SECOND FORM's CARD OF 'bonsailaw31.RailJoined'. -/
def railJoinedUptoCard : Claim7 := { stood := { row := railJoinedUptoRow, standIns := [], harness := (true, "ad9a3f12fc5fe14aedafbb92ac5c852ad438dd788069709bf91cf2052ee650c5"), looks := false }, kinds := [], alts := [], laidByText := true, laidKinds := [.data, .data, .data, .data], laidTests := true, laidLooks := .later }
def RailJoinedUptoCardSaid : Prop := Claim7.holds Tryd.pinned (.plain (OpenSpec.upto railJoinedSpec)) railJoinedUptoCard

/-- THE SECOND FORM's CARD OF 'bonsailaw31.RailNames'. -/
def railNamesUptoCard : Claim7 := { stood := { row := railNamesUptoRow, standIns := [], harness := (true, "ad9a3f12fc5fe14aedafbb92ac5c852ad438dd788069709bf91cf2052ee650c5"), looks := false }, kinds := [], alts := [], laidByText := true, laidKinds := [.data, .data, .data, .data], laidTests := true, laidLooks := .later }
def RailNamesUptoCardSaid : Prop := Claim7.holds Tryd.pinned (.plain (OpenSpec.upto railNamesSpec)) railNamesUptoCard
end Rows
end Go.Proofs.YtalnmednhhimhaaDoor
