/-
  DERIVED. GIVEN WITH THE SEED: THE CARDS: each row of YtanbfhnmklhjiaaGreatDoorRows.lean that lists a variable, with what it lists TIED to the program's text (the seventh form; the later family's looks); each row that meets fmt, with fmt's text TOLD by the authors' own Lean function (tested against real Go, not proved from fmt's source: count such statements apart). THE CARD IS WHAT COUNTS. Prove the row's statement (the work); the ties are given (YtanbfhnmklhjiaaGreatDoorTie.lean); close each card by the builder's one call (the guide's Derived/Test/ToyasCard.lean, 'card_holds'). Laid BY PROGRAM, IN A SANDBOX (cutbox-door.mjs). By AI agents, Wed Nov 11 2026. No macro, syntax, notation, axiom, sorry.
-/
import Derived.Test.YtanbfhnmklhjiaaGreatDoorRows
import GoSem.ClaimSeven
namespace Go.Proofs.YtanbfhnmklhjiaaGreatDoor
namespace Rows

/-- THE TIED CARD OF 'librarylaw24.BrowseBuilds'. -/
def browseBuildsCard : Claim7 := { stood := { row := browseBuildsRow, standIns := [], harness := (true, "9400d8601fd9870fe6fad39e9b9dc8b0b987a0cd25e81582b1b1a516f6d3e04d"), looks := false }, kinds := [], alts := [], laidByText := true, laidKinds := [.data, .data, .data, .data, .widerDeep, .pinned], laidTests := true, laidLooks := .later }
def BrowseBuildsCardSaid : Prop := Claim7.holds Tryz.pinned (.plain (OpenSpec.ofChange browseBuildsSpec)) browseBuildsCard

/-- THE TIED CARD OF 'librarylaw24.BrowseFinds'. -/
def browseFindsCard : Claim7 := { stood := { row := browseFindsRow, standIns := [], harness := (true, "9400d8601fd9870fe6fad39e9b9dc8b0b987a0cd25e81582b1b1a516f6d3e04d"), looks := false }, kinds := [], alts := [], laidByText := true, laidKinds := [.data, .data, .data, .data, .widerDeep, .pinned], laidTests := true, laidLooks := .later }
def BrowseFindsCardSaid : Prop := Claim7.holds Tryz.pinned (.plain (OpenSpec.ofChange browseFindsSpec)) browseFindsCard

/-- THE TIED CARD OF 'librarylaw24.BrowseOrders'. -/
def browseOrdersCard : Claim7 := { stood := { row := browseOrdersRow, standIns := [], harness := (true, "9400d8601fd9870fe6fad39e9b9dc8b0b987a0cd25e81582b1b1a516f6d3e04d"), looks := false }, kinds := [], alts := [], laidByText := true, laidKinds := [.data, .data, .data, .data, .widerDeep, .pinned], laidTests := true, laidLooks := .later }
def BrowseOrdersCardSaid : Prop := Claim7.holds Tryz.pinned (.plain (OpenSpec.ofChange browseOrdersSpec)) browseOrdersCard

/-- THE TIED CARD OF 'librarylaw24.BrowseRefers'. -/
def browseRefersCard : Claim7 := { stood := { row := browseRefersRow, standIns := [], harness := (true, "9400d8601fd9870fe6fad39e9b9dc8b0b987a0cd25e81582b1b1a516f6d3e04d"), looks := false }, kinds := [], alts := [], laidByText := true, laidKinds := [.data, .data, .data, .data, .widerDeep, .pinned], laidTests := true, laidLooks := .later }
def BrowseRefersCardSaid : Prop := Claim7.holds Tryz.pinned (.plain (OpenSpec.ofChange browseRefersSpec)) browseRefersCard

/-- THE TIED CARD OF 'librarylaw13.AuthorityFinds'. -/
def authorityFindsCard : Claim7 := { stood := { row := authorityFindsRow, standIns := [], harness := (true, "9400d8601fd9870fe6fad39e9b9dc8b0b987a0cd25e81582b1b1a516f6d3e04d"), looks := false }, kinds := [], alts := [], laidByText := true, laidKinds := [.data, .pinned], laidTests := true, laidLooks := .later }
def AuthorityFindsCardSaid : Prop := Claim7.holds Tryz.pinned (.plain (OpenSpec.ofChange authorityFindsSpec)) authorityFindsCard

/-- THE TIED CARD OF 'librarylaw13.AuthorityTurns'. -/
def authorityTurnsCard : Claim7 := { stood := { row := authorityTurnsRow, standIns := [], harness := (true, "9400d8601fd9870fe6fad39e9b9dc8b0b987a0cd25e81582b1b1a516f6d3e04d"), looks := false }, kinds := [], alts := [], laidByText := true, laidKinds := [.data, .pinned], laidTests := true, laidLooks := .later }
def AuthorityTurnsCardSaid : Prop := Claim7.holds Tryz.pinned (.plain (OpenSpec.ofChange authorityTurnsSpec)) authorityTurnsCard

/-- THE TIED CARD OF 'librarylaw13.AuthorityKeeps'. -/
def authorityKeepsCard : Claim7 := { stood := { row := authorityKeepsRow, standIns := [], harness := (true, "9400d8601fd9870fe6fad39e9b9dc8b0b987a0cd25e81582b1b1a516f6d3e04d"), looks := false }, kinds := [], alts := [], laidByText := true, laidKinds := [.data, .pinned], laidTests := true, laidLooks := .later }
def AuthorityKeepsCardSaid : Prop := Claim7.holds Tryz.pinned (.plain (OpenSpec.ofChange authorityKeepsSpec)) authorityKeepsCard

/-- THE TIED CARD OF 'librarylaw23.FacetValues'. -/
def facetValuesCard : Claim7 := { stood := { row := facetValuesRow, standIns := [], harness := (true, "9400d8601fd9870fe6fad39e9b9dc8b0b987a0cd25e81582b1b1a516f6d3e04d"), looks := false }, kinds := [], alts := [], laidByText := true, laidKinds := [.data, .data, .data], laidTests := true, laidLooks := .later }
def FacetValuesCardSaid : Prop := Claim7.holds Tryz.pinned (.plain (OpenSpec.ofChange facetValuesSpec)) facetValuesCard

/-- THE TIED CARD OF 'librarylaw23.FacetCounts'. -/
def facetCountsCard : Claim7 := { stood := { row := facetCountsRow, standIns := [], harness := (true, "9400d8601fd9870fe6fad39e9b9dc8b0b987a0cd25e81582b1b1a516f6d3e04d"), looks := false }, kinds := [], alts := [], laidByText := true, laidKinds := [.data, .data, .data], laidTests := true, laidLooks := .later }
def FacetCountsCardSaid : Prop := Claim7.holds Tryz.pinned (.plain (OpenSpec.ofChange facetCountsSpec)) facetCountsCard

/-- THE TIED CARD OF 'librarylaw23.FacetTops'. -/
def facetTopsCard : Claim7 := { stood := { row := facetTopsRow, standIns := [], harness := (true, "9400d8601fd9870fe6fad39e9b9dc8b0b987a0cd25e81582b1b1a516f6d3e04d"), looks := false }, kinds := [], alts := [], laidByText := true, laidKinds := [.data, .data, .data], laidTests := true, laidLooks := .later }
def FacetTopsCardSaid : Prop := Claim7.holds Tryz.pinned (.plain (OpenSpec.ofChange facetTopsSpec)) facetTopsCard

/-- THE TIED CARD OF 'librarylaw23.FacetAgrees'. -/
def facetAgreesCard : Claim7 := { stood := { row := facetAgreesRow, standIns := [], harness := (true, "9400d8601fd9870fe6fad39e9b9dc8b0b987a0cd25e81582b1b1a516f6d3e04d"), looks := false }, kinds := [], alts := [], laidByText := true, laidKinds := [.data, .data, .data], laidTests := true, laidLooks := .later }
def FacetAgreesCardSaid : Prop := Claim7.holds Tryz.pinned (.plain (OpenSpec.ofChange facetAgreesSpec)) facetAgreesCard

/-- THE TIED CARD OF 'librarylaw23.FacetTwice'. -/
def facetTwiceCard : Claim7 := { stood := { row := facetTwiceRow, standIns := [], harness := (true, "9400d8601fd9870fe6fad39e9b9dc8b0b987a0cd25e81582b1b1a516f6d3e04d"), looks := false }, kinds := [], alts := [], laidByText := true, laidKinds := [.data, .data, .data], laidTests := true, laidLooks := .later }
def FacetTwiceCardSaid : Prop := Claim7.holds Tryz.pinned (.plain (OpenSpec.ofChange facetTwiceSpec)) facetTwiceCard

/-- THE SECOND FORM's CARD OF 'librarylaw24.BrowseBuilds'. -/
def browseBuildsUptoCard : Claim7 := { stood := { row := browseBuildsUptoRow, standIns := [], harness := (true, "9400d8601fd9870fe6fad39e9b9dc8b0b987a0cd25e81582b1b1a516f6d3e04d"), looks := false }, kinds := [], alts := [], laidByText := true, laidKinds := [.data, .data, .data, .data, .widerDeep, .pinned], laidTests := true, laidLooks := .later }
def BrowseBuildsUptoCardSaid : Prop := Claim7.holds Tryz.pinned (.plain (OpenSpec.upto browseBuildsSpec)) browseBuildsUptoCard

/-- THE SECOND FORM's CARD OF 'librarylaw24.BrowseFinds'. -/
def browseFindsUptoCard : Claim7 := { stood := { row := browseFindsUptoRow, standIns := [], harness := (true, "9400d8601fd9870fe6fad39e9b9dc8b0b987a0cd25e81582b1b1a516f6d3e04d"), looks := false }, kinds := [], alts := [], laidByText := true, laidKinds := [.data, .data, .data, .data, .widerDeep, .pinned], laidTests := true, laidLooks := .later }
def BrowseFindsUptoCardSaid : Prop := Claim7.holds Tryz.pinned (.plain (OpenSpec.upto browseFindsSpec)) browseFindsUptoCard

/-- THE SECOND FORM's CARD OF 'librarylaw24.BrowseOrders'. -/
def browseOrdersUptoCard : Claim7 := { stood := { row := browseOrdersUptoRow, standIns := [], harness := (true, "9400d8601fd9870fe6fad39e9b9dc8b0b987a0cd25e81582b1b1a516f6d3e04d"), looks := false }, kinds := [], alts := [], laidByText := true, laidKinds := [.data, .data, .data, .data, .widerDeep, .pinned], laidTests := true, laidLooks := .later }
def BrowseOrdersUptoCardSaid : Prop := Claim7.holds Tryz.pinned (.plain (OpenSpec.upto browseOrdersSpec)) browseOrdersUptoCard

/-- THE SECOND FORM's CARD OF 'librarylaw24.BrowseRefers'. -/
def browseRefersUptoCard : Claim7 := { stood := { row := browseRefersUptoRow, standIns := [], harness := (true, "9400d8601fd9870fe6fad39e9b9dc8b0b987a0cd25e81582b1b1a516f6d3e04d"), looks := false }, kinds := [], alts := [], laidByText := true, laidKinds := [.data, .data, .data, .data, .widerDeep, .pinned], laidTests := true, laidLooks := .later }
def BrowseRefersUptoCardSaid : Prop := Claim7.holds Tryz.pinned (.plain (OpenSpec.upto browseRefersSpec)) browseRefersUptoCard

/-- THE SECOND FORM's CARD OF 'librarylaw13.AuthorityFinds'. -/
def authorityFindsUptoCard : Claim7 := { stood := { row := authorityFindsUptoRow, standIns := [], harness := (true, "9400d8601fd9870fe6fad39e9b9dc8b0b987a0cd25e81582b1b1a516f6d3e04d"), looks := false }, kinds := [], alts := [], laidByText := true, laidKinds := [.data, .pinned], laidTests := true, laidLooks := .later }
def AuthorityFindsUptoCardSaid : Prop := Claim7.holds Tryz.pinned (.plain (OpenSpec.upto authorityFindsSpec)) authorityFindsUptoCard

/-- THE SECOND FORM's CARD OF 'librarylaw13.AuthorityTurns'. -/
def authorityTurnsUptoCard : Claim7 := { stood := { row := authorityTurnsUptoRow, standIns := [], harness := (true, "9400d8601fd9870fe6fad39e9b9dc8b0b987a0cd25e81582b1b1a516f6d3e04d"), looks := false }, kinds := [], alts := [], laidByText := true, laidKinds := [.data, .pinned], laidTests := true, laidLooks := .later }
def AuthorityTurnsUptoCardSaid : Prop := Claim7.holds Tryz.pinned (.plain (OpenSpec.upto authorityTurnsSpec)) authorityTurnsUptoCard

/-- THE SECOND FORM's CARD OF 'librarylaw13.AuthorityKeeps'. -/
def authorityKeepsUptoCard : Claim7 := { stood := { row := authorityKeepsUptoRow, standIns := [], harness := (true, "9400d8601fd9870fe6fad39e9b9dc8b0b987a0cd25e81582b1b1a516f6d3e04d"), looks := false }, kinds := [], alts := [], laidByText := true, laidKinds := [.data, .pinned], laidTests := true, laidLooks := .later }
def AuthorityKeepsUptoCardSaid : Prop := Claim7.holds Tryz.pinned (.plain (OpenSpec.upto authorityKeepsSpec)) authorityKeepsUptoCard

/-- THE SECOND FORM's CARD OF 'librarylaw23.FacetValues'. -/
def facetValuesUptoCard : Claim7 := { stood := { row := facetValuesUptoRow, standIns := [], harness := (true, "9400d8601fd9870fe6fad39e9b9dc8b0b987a0cd25e81582b1b1a516f6d3e04d"), looks := false }, kinds := [], alts := [], laidByText := true, laidKinds := [.data, .data, .data], laidTests := true, laidLooks := .later }
def FacetValuesUptoCardSaid : Prop := Claim7.holds Tryz.pinned (.plain (OpenSpec.upto facetValuesSpec)) facetValuesUptoCard

/-- THE SECOND FORM's CARD OF 'librarylaw23.FacetCounts'. -/
def facetCountsUptoCard : Claim7 := { stood := { row := facetCountsUptoRow, standIns := [], harness := (true, "9400d8601fd9870fe6fad39e9b9dc8b0b987a0cd25e81582b1b1a516f6d3e04d"), looks := false }, kinds := [], alts := [], laidByText := true, laidKinds := [.data, .data, .data], laidTests := true, laidLooks := .later }
def FacetCountsUptoCardSaid : Prop := Claim7.holds Tryz.pinned (.plain (OpenSpec.upto facetCountsSpec)) facetCountsUptoCard

/-- THE SECOND FORM's CARD OF 'librarylaw23.FacetTops'. -/
def facetTopsUptoCard : Claim7 := { stood := { row := facetTopsUptoRow, standIns := [], harness := (true, "9400d8601fd9870fe6fad39e9b9dc8b0b987a0cd25e81582b1b1a516f6d3e04d"), looks := false }, kinds := [], alts := [], laidByText := true, laidKinds := [.data, .data, .data], laidTests := true, laidLooks := .later }
def FacetTopsUptoCardSaid : Prop := Claim7.holds Tryz.pinned (.plain (OpenSpec.upto facetTopsSpec)) facetTopsUptoCard

/-- THE SECOND FORM's CARD OF 'librarylaw23.FacetAgrees'. -/
def facetAgreesUptoCard : Claim7 := { stood := { row := facetAgreesUptoRow, standIns := [], harness := (true, "9400d8601fd9870fe6fad39e9b9dc8b0b987a0cd25e81582b1b1a516f6d3e04d"), looks := false }, kinds := [], alts := [], laidByText := true, laidKinds := [.data, .data, .data], laidTests := true, laidLooks := .later }
def FacetAgreesUptoCardSaid : Prop := Claim7.holds Tryz.pinned (.plain (OpenSpec.upto facetAgreesSpec)) facetAgreesUptoCard

/-- THE SECOND FORM's CARD OF 'librarylaw23.FacetTwice'. -/
def facetTwiceUptoCard : Claim7 := { stood := { row := facetTwiceUptoRow, standIns := [], harness := (true, "9400d8601fd9870fe6fad39e9b9dc8b0b987a0cd25e81582b1b1a516f6d3e04d"), looks := false }, kinds := [], alts := [], laidByText := true, laidKinds := [.data, .data, .data], laidTests := true, laidLooks := .later }
def FacetTwiceUptoCardSaid : Prop := Claim7.holds Tryz.pinned (.plain (OpenSpec.upto facetTwiceSpec)) facetTwiceUptoCard
end Rows
end Go.Proofs.YtanbfhnmklhjiaaGreatDoor
