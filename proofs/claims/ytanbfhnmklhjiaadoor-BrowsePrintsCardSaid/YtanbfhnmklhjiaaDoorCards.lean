/-
  DERIVED. GIVEN WITH THE SEED: THE CARDS: each row of YtanbfhnmklhjiaaDoorRows.lean that lists a variable, with what it lists TIED to the program's text (the seventh form; the later family's looks); each row that meets fmt, with fmt's text TOLD by the authors' own Lean function (tested against real Go, not proved from fmt's source: count such statements apart). THE CARD IS WHAT COUNTS. Prove the row's statement (the work); the ties are given (YtanbfhnmklhjiaaDoorTie.lean); close each card by the builder's one call (the guide's Derived/Test/ToyasCard.lean, 'card_holds'). Laid BY PROGRAM, IN A SANDBOX (cutbox-door.mjs). By AI agents, Wed Nov 11 2026. No macro, syntax, notation, axiom, sorry.
-/
import Derived.Test.YtanbfhnmklhjiaaDoorRows
import GoSem.ClaimSeven
namespace Go.Proofs.YtanbfhnmklhjiaaDoor
namespace Rows

/-- THE TIED CARD OF 'librarylaw24.BrowsePages'. -/
def browsePagesCard : Claim7 := { stood := { row := browsePagesRow, standIns := [], harness := (true, "48ed4f8ae3bd0ae4aafdd959377ddbd978aa3d50690f61c0602dfc4b3a7cc0d0"), looks := false }, kinds := [], alts := [], laidByText := true, laidKinds := [.data, .data, .data, .data, .widerDeep, .pinned], laidTests := true, laidLooks := .later }
def BrowsePagesCardSaid : Prop := Claim7.holds Tryd.pinned (.plain (OpenSpec.ofChange browsePagesSpec)) browsePagesCard

/-- THE TIED CARD OF 'librarylaw24.BrowsePrints'. -/
def browsePrintsCard : Claim7 := { stood := { row := browsePrintsRow, standIns := [], harness := (true, "48ed4f8ae3bd0ae4aafdd959377ddbd978aa3d50690f61c0602dfc4b3a7cc0d0"), looks := false }, kinds := [], alts := [], laidByText := true, laidKinds := [.data, .data, .data, .data, .widerDeep, .pinned], laidTests := true, laidLooks := .later }
def BrowsePrintsCardSaid : Prop := Claim7.holds Tryd.pinned (.plain (OpenSpec.ofChange browsePrintsSpec)) browsePrintsCard

/-- THE TIED CARD OF 'librarylaw24.BrowseTurns'. -/
def browseTurnsCard : Claim7 := { stood := { row := browseTurnsRow, standIns := [], harness := (true, "48ed4f8ae3bd0ae4aafdd959377ddbd978aa3d50690f61c0602dfc4b3a7cc0d0"), looks := false }, kinds := [], alts := [], laidByText := true, laidKinds := [.data, .data, .data, .data, .widerDeep, .pinned], laidTests := true, laidLooks := .later }
def BrowseTurnsCardSaid : Prop := Claim7.holds Tryd.pinned (.plain (OpenSpec.ofChange browseTurnsSpec)) browseTurnsCard

/-- THE SECOND FORM's CARD OF 'librarylaw24.BrowsePages'. -/
def browsePagesUptoCard : Claim7 := { stood := { row := browsePagesUptoRow, standIns := [], harness := (true, "48ed4f8ae3bd0ae4aafdd959377ddbd978aa3d50690f61c0602dfc4b3a7cc0d0"), looks := false }, kinds := [], alts := [], laidByText := true, laidKinds := [.data, .data, .data, .data, .widerDeep, .pinned], laidTests := true, laidLooks := .later }
def BrowsePagesUptoCardSaid : Prop := Claim7.holds Tryd.pinned (.plain (OpenSpec.upto browsePagesSpec)) browsePagesUptoCard

/-- THE SECOND FORM's CARD OF 'librarylaw24.BrowsePrints'. -/
def browsePrintsUptoCard : Claim7 := { stood := { row := browsePrintsUptoRow, standIns := [], harness := (true, "48ed4f8ae3bd0ae4aafdd959377ddbd978aa3d50690f61c0602dfc4b3a7cc0d0"), looks := false }, kinds := [], alts := [], laidByText := true, laidKinds := [.data, .data, .data, .data, .widerDeep, .pinned], laidTests := true, laidLooks := .later }
def BrowsePrintsUptoCardSaid : Prop := Claim7.holds Tryd.pinned (.plain (OpenSpec.upto browsePrintsSpec)) browsePrintsUptoCard

/-- THE SECOND FORM's CARD OF 'librarylaw24.BrowseTurns'. -/
def browseTurnsUptoCard : Claim7 := { stood := { row := browseTurnsUptoRow, standIns := [], harness := (true, "48ed4f8ae3bd0ae4aafdd959377ddbd978aa3d50690f61c0602dfc4b3a7cc0d0"), looks := false }, kinds := [], alts := [], laidByText := true, laidKinds := [.data, .data, .data, .data, .widerDeep, .pinned], laidTests := true, laidLooks := .later }
def BrowseTurnsUptoCardSaid : Prop := Claim7.holds Tryd.pinned (.plain (OpenSpec.upto browseTurnsSpec)) browseTurnsUptoCard
end Rows
end Go.Proofs.YtanbfhnmklhjiaaDoor
