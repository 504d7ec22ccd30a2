/-
  DERIVED. GIVEN WITH THE SEED: THE CARDS: each row of YticdcapnomageaaDoorRows.lean that lists a variable, with what it lists TIED to the program's text (the seventh form; the later family's looks); each row that meets fmt, with fmt's text TOLD by the authors' own Lean function (tested against real Go, not proved from fmt's source: count such statements apart). THE CARD IS WHAT COUNTS. Prove the row's statement (the work); the ties are given (YticdcapnomageaaDoorTie.lean); close each card by the builder's one call (the guide's Derived/Test/ToyasCard.lean, 'card_holds'). Laid BY PROGRAM, IN A SANDBOX (cutbox-door.mjs). By AI agents, Wed Nov 11 2026. No macro, syntax, notation, axiom, sorry.
-/
import Derived.Test.YticdcapnomageaaDoorRows
import GoSem.ClaimSeven
namespace Go.Proofs.YticdcapnomageaaDoor
namespace Rows

/-- THE TIED CARD OF 'librarylaw42.IllAllowed'. -/
def illAllowedCard : Claim7 := { stood := { row := illAllowedRow, standIns := [], harness := (true, "240c226ccbbe720b00539b28fad5ed776cc9229d956e28d323a6f2f67bffa613"), looks := false }, kinds := [], alts := [], laidByText := true, laidKinds := [.data, .widerDeep, .pinned], laidTests := true, laidLooks := .later }
def IllAllowedCardSaid : Prop := Claim7.holds Tryd.pinned (.plain (OpenSpec.ofChange illAllowedSpec)) illAllowedCard

/-- THE TIED CARD OF 'librarylaw42.IllTwice'. -/
def illTwiceCard : Claim7 := { stood := { row := illTwiceRow, standIns := [], harness := (true, "240c226ccbbe720b00539b28fad5ed776cc9229d956e28d323a6f2f67bffa613"), looks := false }, kinds := [], alts := [], laidByText := true, laidKinds := [.data, .widerDeep, .pinned], laidTests := true, laidLooks := .later }
def IllTwiceCardSaid : Prop := Claim7.holds Tryd.pinned (.plain (OpenSpec.ofChange illTwiceSpec)) illTwiceCard

/-- THE TIED CARD OF 'librarylaw42.IllOrder'. -/
def illOrderCard : Claim7 := { stood := { row := illOrderRow, standIns := [], harness := (true, "240c226ccbbe720b00539b28fad5ed776cc9229d956e28d323a6f2f67bffa613"), looks := false }, kinds := [], alts := [], laidByText := true, laidKinds := [.data, .widerDeep, .pinned], laidTests := true, laidLooks := .later }
def IllOrderCardSaid : Prop := Claim7.holds Tryd.pinned (.plain (OpenSpec.ofChange illOrderSpec)) illOrderCard

/-- THE TIED CARD OF 'librarylaw42.IllRight'. -/
def illRightCard : Claim7 := { stood := { row := illRightRow, standIns := [], harness := (true, "240c226ccbbe720b00539b28fad5ed776cc9229d956e28d323a6f2f67bffa613"), looks := false }, kinds := [], alts := [], laidByText := true, laidKinds := [.data, .widerDeep, .pinned], laidTests := true, laidLooks := .later }
def IllRightCardSaid : Prop := Claim7.holds Tryd.pinned (.plain (OpenSpec.ofChange illRightSpec)) illRightCard

/-- THE TIED CARD OF 'librarylaw42.IllAsks'. -/
def illAsksCard : Claim7 := { stood := { row := illAsksRow, standIns := [], harness := (true, "240c226ccbbe720b00539b28fad5ed776cc9229d956e28d323a6f2f67bffa613"), looks := false }, kinds := [], alts := [], laidByText := true, laidKinds := [.data, .widerDeep, .pinned], laidTests := true, laidLooks := .later }
def IllAsksCardSaid : Prop := Claim7.holds Tryd.pinned (.plain (OpenSpec.ofChange illAsksSpec)) illAsksCard

/-- THE TIED CARD OF 'librarylaw42.IllSays'. -/
def illSaysCard : Claim7 := { stood := { row := illSaysRow, standIns := [], harness := (true, "240c226ccbbe720b00539b28fad5ed776cc9229d956e28d323a6f2f67bffa613"), looks := false }, kinds := [], alts := [], laidByText := true, laidKinds := [.data, .widerDeep, .pinned], laidTests := true, laidLooks := .later }
def IllSaysCardSaid : Prop := Claim7.holds Tryd.pinned (.plain (OpenSpec.ofChange illSaysSpec)) illSaysCard

/-- THE TIED CARD OF 'librarylaw42.IllHears'. -/
def illHearsCard : Claim7 := { stood := { row := illHearsRow, standIns := [], harness := (true, "240c226ccbbe720b00539b28fad5ed776cc9229d956e28d323a6f2f67bffa613"), looks := false }, kinds := [], alts := [], laidByText := true, laidKinds := [.data, .widerDeep, .pinned], laidTests := true, laidLooks := .later }
def IllHearsCardSaid : Prop := Claim7.holds Tryd.pinned (.plain (OpenSpec.ofChange illHearsSpec)) illHearsCard

/-- THE TIED CARD OF 'librarylaw42.IllOpens'. -/
def illOpensCard : Claim7 := { stood := { row := illOpensRow, standIns := [], harness := (true, "240c226ccbbe720b00539b28fad5ed776cc9229d956e28d323a6f2f67bffa613"), looks := false }, kinds := [], alts := [], laidByText := true, laidKinds := [.data, .widerDeep, .pinned], laidTests := true, laidLooks := .later }
def IllOpensCardSaid : Prop := Claim7.holds Tryd.pinned (.plain (OpenSpec.ofChange illOpensSpec)) illOpensCard

/-- THE TIED CARD OF 'librarylaw43.PartnerAsks'. -/
def partnerAsksCard : Claim7 := { stood := { row := partnerAsksRow, standIns := [], harness := (true, "240c226ccbbe720b00539b28fad5ed776cc9229d956e28d323a6f2f67bffa613"), looks := false }, kinds := [], alts := [], laidByText := true, laidKinds := [.data, .widerDeep, .pinned], laidTests := true, laidLooks := .later }
def PartnerAsksCardSaid : Prop := Claim7.holds Tryd.pinned (.plain (OpenSpec.ofChange partnerAsksSpec)) partnerAsksCard

/-- THE TIED CARD OF 'librarylaw43.PartnerHears'. -/
def partnerHearsCard : Claim7 := { stood := { row := partnerHearsRow, standIns := [], harness := (true, "240c226ccbbe720b00539b28fad5ed776cc9229d956e28d323a6f2f67bffa613"), looks := false }, kinds := [], alts := [], laidByText := true, laidKinds := [.data, .widerDeep, .pinned], laidTests := true, laidLooks := .later }
def PartnerHearsCardSaid : Prop := Claim7.holds Tryd.pinned (.plain (OpenSpec.ofChange partnerHearsSpec)) partnerHearsCard

/-- THE TIED CARD OF 'librarylaw43.PartnerCompares'. -/
def partnerComparesCard : Claim7 := { stood := { row := partnerComparesRow, standIns := [], harness := (true, "240c226ccbbe720b00539b28fad5ed776cc9229d956e28d323a6f2f67bffa613"), looks := false }, kinds := [], alts := [], laidByText := true, laidKinds := [.data, .widerDeep, .pinned], laidTests := true, laidLooks := .later }
def PartnerComparesCardSaid : Prop := Claim7.holds Tryd.pinned (.plain (OpenSpec.ofChange partnerComparesSpec)) partnerComparesCard

/-- THE TIED CARD OF 'librarylaw43.PartnerSays'. -/
def partnerSaysCard : Claim7 := { stood := { row := partnerSaysRow, standIns := [], harness := (true, "240c226ccbbe720b00539b28fad5ed776cc9229d956e28d323a6f2f67bffa613"), looks := false }, kinds := [], alts := [], laidByText := true, laidKinds := [.data, .widerDeep, .pinned], laidTests := true, laidLooks := .later }
def PartnerSaysCardSaid : Prop := Claim7.holds Tryd.pinned (.plain (OpenSpec.ofChange partnerSaysSpec)) partnerSaysCard

/-- THE TIED CARD OF 'librarylaw43.PartnerDelivers'. -/
def partnerDeliversCard : Claim7 := { stood := { row := partnerDeliversRow, standIns := [], harness := (true, "240c226ccbbe720b00539b28fad5ed776cc9229d956e28d323a6f2f67bffa613"), looks := false }, kinds := [], alts := [], laidByText := true, laidKinds := [.data, .widerDeep, .pinned], laidTests := true, laidLooks := .later }
def PartnerDeliversCardSaid : Prop := Claim7.holds Tryd.pinned (.plain (OpenSpec.ofChange partnerDeliversSpec)) partnerDeliversCard

/-- THE TIED CARD OF 'librarylaw43.PartnerChecks'. -/
def partnerChecksCard : Claim7 := { stood := { row := partnerChecksRow, standIns := [], harness := (true, "240c226ccbbe720b00539b28fad5ed776cc9229d956e28d323a6f2f67bffa613"), looks := false }, kinds := [], alts := [], laidByText := true, laidKinds := [.data, .widerDeep, .pinned], laidTests := true, laidLooks := .later }
def PartnerChecksCardSaid : Prop := Claim7.holds Tryd.pinned (.plain (OpenSpec.ofChange partnerChecksSpec)) partnerChecksCard

/-- THE TIED CARD OF 'librarylaw43.PartnerKeeps'. -/
def partnerKeepsCard : Claim7 := { stood := { row := partnerKeepsRow, standIns := [], harness := (true, "240c226ccbbe720b00539b28fad5ed776cc9229d956e28d323a6f2f67bffa613"), looks := false }, kinds := [], alts := [], laidByText := true, laidKinds := [.data, .widerDeep, .pinned], laidTests := true, laidLooks := .later }
def PartnerKeepsCardSaid : Prop := Claim7.holds Tryd.pinned (.plain (OpenSpec.ofChange partnerKeepsSpec)) partnerKeepsCard

/-- THE TIED CARD OF 'librarylaw43.PartnerSettles'. -/
def partnerSettlesCard : Claim7 := { stood := { row := partnerSettlesRow, standIns := [], harness := (true, "240c226ccbbe720b00539b28fad5ed776cc9229d956e28d323a6f2f67bffa613"), looks := false }, kinds := [], alts := [], laidByText := true, laidKinds := [.data, .widerDeep, .pinned], laidTests := true, laidLooks := .later }
def PartnerSettlesCardSaid : Prop := Claim7.holds Tryd.pinned (.plain (OpenSpec.ofChange partnerSettlesSpec)) partnerSettlesCard

/-- THE SECOND FORM's CARD OF 'librarylaw42.IllAllowed'. -/
def illAllowedUptoCard : Claim7 := { stood := { row := illAllowedUptoRow, standIns := [], harness := (true, "240c226ccbbe720b00539b28fad5ed776cc9229d956e28d323a6f2f67bffa613"), looks := false }, kinds := [], alts := [], laidByText := true, laidKinds := [.data, .widerDeep, .pinned], laidTests := true, laidLooks := .later }
def IllAllowedUptoCardSaid : Prop := Claim7.holds Tryd.pinned (.plain (OpenSpec.upto illAllowedSpec)) illAllowedUptoCard

/-- THE SECOND FORM's CARD OF 'librarylaw42.IllTwice'. -/
def illTwiceUptoCard : Claim7 := { stood := { row := illTwiceUptoRow, standIns := [], harness := (true, "240c226ccbbe720b00539b28fad5ed776cc9229d956e28d323a6f2f67bffa613"), looks := false }, kinds := [], alts := [], laidByText := true, laidKinds := [.data, .widerDeep, .pinned], laidTests := true, laidLooks := .later }
def IllTwiceUptoCardSaid : Prop := Claim7.holds Tryd.pinned (.plain (OpenSpec.upto illTwiceSpec)) illTwiceUptoCard

/-- THE SECOND FORM's CARD OF 'librarylaw42.IllOrder'. -/
def illOrderUptoCard : Claim7 := { stood := { row := illOrderUptoRow, standIns := [], harness := (true, "240c226ccbbe720b00539b28fad5ed776cc9229d956e28d323a6f2f67bffa613"), looks := false }, kinds := [], alts := [], laidByText := true, laidKinds := [.data, .widerDeep, .pinned], laidTests := true, laidLooks := .later }
def IllOrderUptoCardSaid : Prop := Claim7.holds Tryd.pinned (.plain (OpenSpec.upto illOrderSpec)) illOrderUptoCard

/-- THE SECOND FORM's CARD OF 'librarylaw42.IllRight'. -/
def illRightUptoCard : Claim7 := { stood := { row := illRightUptoRow, standIns := [], harness := (true, "240c226ccbbe720b00539b28fad5ed776cc9229d956e28d323a6f2f67bffa613"), looks := false }, kinds := [], alts := [], laidByText := true, laidKinds := [.data, .widerDeep, .pinned], laidTests := true, laidLooks := .later }
def IllRightUptoCardSaid : Prop := Claim7.holds Tryd.pinned (.plain (OpenSpec.upto illRightSpec)) illRightUptoCard

/-- THE SECOND FORM's CARD OF 'librarylaw42.IllAsks'. -/
def illAsksUptoCard : Claim7 := { stood := { row := illAsksUptoRow, standIns := [], harness := (true, "240c226ccbbe720b00539b28fad5ed776cc9229d956e28d323a6f2f67bffa613"), looks := false }, kinds := [], alts := [], laidByText := true, laidKinds := [.data, .widerDeep, .pinned], laidTests := true, laidLooks := .later }
def IllAsksUptoCardSaid : Prop := Claim7.holds Tryd.pinned (.plain (OpenSpec.upto illAsksSpec)) illAsksUptoCard

/-- THE SECOND FORM's CARD OF 'librarylaw42.IllSays'. -/
def illSaysUptoCard : Claim7 := { stood := { row := illSaysUptoRow, standIns := [], harness := (true, "240c226ccbbe720b00539b28fad5ed776cc9229d956e28d323a6f2f67bffa613"), looks := false }, kinds := [], alts := [], laidByText := true, laidKinds := [.data, .widerDeep, .pinned], laidTests := true, laidLooks := .later }
def IllSaysUptoCardSaid : Prop := Claim7.holds Tryd.pinned (.plain (OpenSpec.upto illSaysSpec)) illSaysUptoCard

/-- THE SECOND FORM's CARD OF 'librarylaw42.IllHears'. -/
def illHearsUptoCard : Claim7 := { stood := { row := illHearsUptoRow, standIns := [], harness := (true, "240c226ccbbe720b00539b28fad5ed776cc9229d956e28d323a6f2f67bffa613"), looks := false }, kinds := [], alts := [], laidByText := true, laidKinds := [.data, .widerDeep, .pinned], laidTests := true, laidLooks := .later }
def IllHearsUptoCardSaid : Prop := Claim7.holds Tryd.pinned (.plain (OpenSpec.upto illHearsSpec)) illHearsUptoCard

/-- THE SECOND FORM's CARD OF 'librarylaw42.IllOpens'. -/
def illOpensUptoCard : Claim7 := { stood := { row := illOpensUptoRow, standIns := [], harness := (true, "240c226ccbbe720b00539b28fad5ed776cc9229d956e28d323a6f2f67bffa613"), looks := false }, kinds := [], alts := [], laidByText := true, laidKinds := [.data, .widerDeep, .pinned], laidTests := true, laidLooks := .later }
def IllOpensUptoCardSaid : Prop := Claim7.holds Tryd.pinned (.plain (OpenSpec.upto illOpensSpec)) illOpensUptoCard

/-- THE SECOND FORM's CARD OF 'librarylaw43.PartnerAsks'. -/
def partnerAsksUptoCard : Claim7 := { stood := { row := partnerAsksUptoRow, standIns := [], harness := (true, "240c226ccbbe720b00539b28fad5ed776cc9229d956e28d323a6f2f67bffa613"), looks := false }, kinds := [], alts := [], laidByText := true, laidKinds := [.data, .widerDeep, .pinned], laidTests := true, laidLooks := .later }
def PartnerAsksUptoCardSaid : Prop := Claim7.holds Tryd.pinned (.plain (OpenSpec.upto partnerAsksSpec)) partnerAsksUptoCard

/-- THE SECOND FORM's CARD OF 'librarylaw43.PartnerHears'. -/
def partnerHearsUptoCard : Claim7 := { stood := { row := partnerHearsUptoRow, standIns := [], harness := (true, "240c226ccbbe720b00539b28fad5ed776cc9229d956e28d323a6f2f67bffa613"), looks := false }, kinds := [], alts := [], laidByText := true, laidKinds := [.data, .widerDeep, .pinned], laidTests := true, laidLooks := .later }
def PartnerHearsUptoCardSaid : Prop := Claim7.holds Tryd.pinned (.plain (OpenSpec.upto partnerHearsSpec)) partnerHearsUptoCard

/-- THE SECOND FORM's CARD OF 'librarylaw43.PartnerCompares'. -/
def partnerComparesUptoCard : Claim7 := { stood := { row := partnerComparesUptoRow, standIns := [], harness := (true, "240c226ccbbe720b00539b28fad5ed776cc9229d956e28d323a6f2f67bffa613"), looks := false }, kinds := [], alts := [], laidByText := true, laidKinds := [.data, .widerDeep, .pinned], laidTests := true, laidLooks := .later }
def PartnerComparesUptoCardSaid : Prop := Claim7.holds Tryd.pinned (.plain (OpenSpec.upto partnerComparesSpec)) partnerComparesUptoCard

/-- THE SECOND FORM's CARD OF 'librarylaw43.PartnerSays'. -/
def partnerSaysUptoCard : Claim7 := { stood := { row := partnerSaysUptoRow, standIns := [], harness := (true, "240c226ccbbe720b00539b28fad5ed776cc9229d956e28d323a6f2f67bffa613"), looks := false }, kinds := [], alts := [], laidByText := true, laidKinds := [.data, .widerDeep, .pinned], laidTests := true, laidLooks := .later }
def PartnerSaysUptoCardSaid : Prop := Claim7.holds Tryd.pinned (.plain (OpenSpec.upto partnerSaysSpec)) partnerSaysUptoCard

/-- THE SECOND FORM's CARD OF 'librarylaw43.PartnerDelivers'. -/
def partnerDeliversUptoCard : Claim7 := { stood := { row := partnerDeliversUptoRow, standIns := [], harness := (true, "240c226ccbbe720b00539b28fad5ed776cc9229d956e28d323a6f2f67bffa613"), looks := false }, kinds := [], alts := [], laidByText := true, laidKinds := [.data, .widerDeep, .pinned], laidTests := true, laidLooks := .later }
def PartnerDeliversUptoCardSaid : Prop := Claim7.holds Tryd.pinned (.plain (OpenSpec.upto partnerDeliversSpec)) partnerDeliversUptoCard

/-- THE SECOND FORM's CARD OF 'librarylaw43.PartnerChecks'. -/
def partnerChecksUptoCard : Claim7 := { stood := { row := partnerChecksUptoRow, standIns := [], harness := (true, "240c226ccbbe720b00539b28fad5ed776cc9229d956e28d323a6f2f67bffa613"), looks := false }, kinds := [], alts := [], laidByText := true, laidKinds := [.data, .widerDeep, .pinned], laidTests := true, laidLooks := .later }
def PartnerChecksUptoCardSaid : Prop := Claim7.holds Tryd.pinned (.plain (OpenSpec.upto partnerChecksSpec)) partnerChecksUptoCard

/-- THE SECOND FORM's CARD OF 'librarylaw43.PartnerKeeps'. -/
def partnerKeepsUptoCard : Claim7 := { stood := { row := partnerKeepsUptoRow, standIns := [], harness := (true, "240c226ccbbe720b00539b28fad5ed776cc9229d956e28d323a6f2f67bffa613"), looks := false }, kinds := [], alts := [], laidByText := true, laidKinds := [.data, .widerDeep, .pinned], laidTests := true, laidLooks := .later }
def PartnerKeepsUptoCardSaid : Prop := Claim7.holds Tryd.pinned (.plain (OpenSpec.upto partnerKeepsSpec)) partnerKeepsUptoCard

/-- THE SECOND FORM's CARD OF 'librarylaw43.PartnerSettles'. -/
def partnerSettlesUptoCard : Claim7 := { stood := { row := partnerSettlesUptoRow, standIns := [], harness := (true, "240c226ccbbe720b00539b28fad5ed776cc9229d956e28d323a6f2f67bffa613"), looks := false }, kinds := [], alts := [], laidByText := true, laidKinds := [.data, .widerDeep, .pinned], laidTests := true, laidLooks := .later }
def PartnerSettlesUptoCardSaid : Prop := Claim7.holds Tryd.pinned (.plain (OpenSpec.upto partnerSettlesSpec)) partnerSettlesUptoCard
end Rows
end Go.Proofs.YticdcapnomageaaDoor
