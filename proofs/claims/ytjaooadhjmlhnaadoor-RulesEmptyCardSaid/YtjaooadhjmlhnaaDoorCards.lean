/-
  DERIVED. GIVEN WITH THE SEED: THE CARDS: each row of YtjaooadhjmlhnaaDoorRows.lean that lists a variable, with what it lists TIED to the program's text (the seventh form; the later family's looks); each row that meets fmt, with fmt's text TOLD by the authors' own Lean function (tested against real Go, not proved from fmt's source: count such statements apart). THE CARD IS WHAT COUNTS. Prove the row's statement (the work); the ties are given (YtjaooadhjmlhnaaDoorTie.lean); close each card by the builder's one call (the guide's Derived/Test/ToyasCard.lean, 'card_holds'). Laid BY PROGRAM, IN A SANDBOX (cutbox-door.mjs). By AI agents, Wed Nov 11 2026. No macro, syntax, notation, axiom, sorry.
-/
import Derived.Test.YtjaooadhjmlhnaaDoorRows
import GoSem.ClaimSeven
namespace Go.Proofs.YtjaooadhjmlhnaaDoor
namespace Rows

/-- THE TIED CARD OF 'librarylaw09.RulesFind'. -/
def rulesFindCard : Claim7 := { stood := { row := rulesFindRow, standIns := [], harness := (true, "690628a67e170e7878d7b61ca4f37f8b409d25dcb27de20ecd456da3c72a8e62"), looks := false }, kinds := [], alts := [], laidByText := true, laidKinds := [.widerDeep], laidTests := true, laidLooks := .later }
def RulesFindCardSaid : Prop := Claim7.holds Tryd.pinned (.plain (OpenSpec.ofChange rulesFindSpec)) rulesFindCard

/-- THE TIED CARD OF 'librarylaw09.RulesChecks'. -/
def rulesChecksCard : Claim7 := { stood := { row := rulesChecksRow, standIns := [], harness := (true, "690628a67e170e7878d7b61ca4f37f8b409d25dcb27de20ecd456da3c72a8e62"), looks := false }, kinds := [], alts := [], laidByText := true, laidKinds := [.widerDeep], laidTests := true, laidLooks := .later }
def RulesChecksCardSaid : Prop := Claim7.holds Tryd.pinned (.plain (OpenSpec.ofChange rulesChecksSpec)) rulesChecksCard

/-- THE TIED CARD OF 'librarylaw09.RulesUsual'. -/
def rulesUsualCard : Claim7 := { stood := { row := rulesUsualRow, standIns := [], harness := (true, "690628a67e170e7878d7b61ca4f37f8b409d25dcb27de20ecd456da3c72a8e62"), looks := false }, kinds := [], alts := [], laidByText := true, laidKinds := [.widerDeep], laidTests := true, laidLooks := .later }
def RulesUsualCardSaid : Prop := Claim7.holds Tryd.pinned (.plain (OpenSpec.ofChange rulesUsualSpec)) rulesUsualCard

/-- THE TIED CARD OF 'librarylaw09.RulesEmpty'. -/
def rulesEmptyCard : Claim7 := { stood := { row := rulesEmptyRow, standIns := [], harness := (true, "690628a67e170e7878d7b61ca4f37f8b409d25dcb27de20ecd456da3c72a8e62"), looks := false }, kinds := [], alts := [], laidByText := true, laidKinds := [.widerDeep], laidTests := true, laidLooks := .later }
def RulesEmptyCardSaid : Prop := Claim7.holds Tryd.pinned (.plain (OpenSpec.ofChange rulesEmptySpec)) rulesEmptyCard

/-- THE TIED CARD OF 'librarylaw09.RulesEach'. -/
def rulesEachCard : Claim7 := { stood := { row := rulesEachRow, standIns := [], harness := (true, "690628a67e170e7878d7b61ca4f37f8b409d25dcb27de20ecd456da3c72a8e62"), looks := false }, kinds := [], alts := [], laidByText := true, laidKinds := [.widerDeep], laidTests := true, laidLooks := .later }
def RulesEachCardSaid : Prop := Claim7.holds Tryd.pinned (.plain (OpenSpec.ofChange rulesEachSpec)) rulesEachCard

/-- THE SECOND FORM's CARD OF 'librarylaw09.RulesFind'. -/
def rulesFindUptoCard : Claim7 := { stood := { row := rulesFindUptoRow, standIns := [], harness := (true, "690628a67e170e7878d7b61ca4f37f8b409d25dcb27de20ecd456da3c72a8e62"), looks := false }, kinds := [], alts := [], laidByText := true, laidKinds := [.widerDeep], laidTests := true, laidLooks := .later }
def RulesFindUptoCardSaid : Prop := Claim7.holds Tryd.pinned (.plain (OpenSpec.upto rulesFindSpec)) rulesFindUptoCard

/-- THE SECOND FORM's CARD OF 'librarylaw09.RulesChecks'. -/
def rulesChecksUptoCard : Claim7 := { stood := { row := rulesChecksUptoRow, standIns := [], harness := (true, "690628a67e170e7878d7b61ca4f37f8b409d25dcb27de20ecd456da3c72a8e62"), looks := false }, kinds := [], alts := [], laidByText := true, laidKinds := [.widerDeep], laidTests := true, laidLooks := .later }
def RulesChecksUptoCardSaid : Prop := Claim7.holds Tryd.pinned (.plain (OpenSpec.upto rulesChecksSpec)) rulesChecksUptoCard

/-- THE SECOND FORM's CARD OF 'librarylaw09.RulesUsual'. -/
def rulesUsualUptoCard : Claim7 := { stood := { row := rulesUsualUptoRow, standIns := [], harness := (true, "690628a67e170e7878d7b61ca4f37f8b409d25dcb27de20ecd456da3c72a8e62"), looks := false }, kinds := [], alts := [], laidByText := true, laidKinds := [.widerDeep], laidTests := true, laidLooks := .later }
def RulesUsualUptoCardSaid : Prop := Claim7.holds Tryd.pinned (.plain (OpenSpec.upto rulesUsualSpec)) rulesUsualUptoCard

/-- THE SECOND FORM's CARD OF 'librarylaw09.RulesEmpty'. -/
def rulesEmptyUptoCard : Claim7 := { stood := { row := rulesEmptyUptoRow, standIns := [], harness := (true, "690628a67e170e7878d7b61ca4f37f8b409d25dcb27de20ecd456da3c72a8e62"), looks := false }, kinds := [], alts := [], laidByText := true, laidKinds := [.widerDeep], laidTests := true, laidLooks := .later }
def RulesEmptyUptoCardSaid : Prop := Claim7.holds Tryd.pinned (.plain (OpenSpec.upto rulesEmptySpec)) rulesEmptyUptoCard

/-- THE SECOND FORM's CARD OF 'librarylaw09.RulesEach'. -/
def rulesEachUptoCard : Claim7 := { stood := { row := rulesEachUptoRow, standIns := [], harness := (true, "690628a67e170e7878d7b61ca4f37f8b409d25dcb27de20ecd456da3c72a8e62"), looks := false }, kinds := [], alts := [], laidByText := true, laidKinds := [.widerDeep], laidTests := true, laidLooks := .later }
def RulesEachUptoCardSaid : Prop := Claim7.holds Tryd.pinned (.plain (OpenSpec.upto rulesEachSpec)) rulesEachUptoCard
end Rows
end Go.Proofs.YtjaooadhjmlhnaaDoor
