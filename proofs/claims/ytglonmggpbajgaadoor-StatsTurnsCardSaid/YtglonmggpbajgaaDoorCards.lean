/-
  DERIVED. GIVEN WITH THE SEED: THE CARDS: each row of YtglonmggpbajgaaDoorRows.lean that lists a variable, with what it lists TIED to the program's text (the seventh form; the later family's looks); each row that meets fmt, with fmt's text TOLD by the authors' own Lean function (tested against real Go, not proved from fmt's source: count such statements apart). THE CARD IS WHAT COUNTS. Prove the row's statement (the work); the ties are given (YtglonmggpbajgaaDoorTie.lean); close each card by the builder's one call (the guide's Derived/Test/ToyasCard.lean, 'card_holds'). Laid BY PROGRAM, IN A SANDBOX (cutbox-door.mjs). By AI agents, Wed Nov 11 2026. No macro, syntax, notation, axiom, sorry.
-/
import Derived.Test.YtglonmggpbajgaaDoorRows
import GoSem.ClaimSeven
namespace Go.Proofs.YtglonmggpbajgaaDoor
namespace Rows

/-- THE TIED CARD OF 'librarylaw48.StatsKeys'. -/
def statsKeysCard : Claim7 := { stood := { row := statsKeysRow, standIns := [], harness := (true, "80909459a3a780bd582940ee9a5188e865c4b334b8d24a577de6b865ee12c296"), looks := false }, kinds := [], alts := [], laidByText := true, laidKinds := [.data, .data, .data], laidTests := true, laidLooks := .later }
def StatsKeysCardSaid : Prop := Claim7.holds Tryd.pinned (.plain (OpenSpec.ofChange statsKeysSpec)) statsKeysCard

/-- THE TIED CARD OF 'librarylaw48.StatsTallies'. -/
def statsTalliesCard : Claim7 := { stood := { row := statsTalliesRow, standIns := [], harness := (true, "80909459a3a780bd582940ee9a5188e865c4b334b8d24a577de6b865ee12c296"), looks := false }, kinds := [], alts := [], laidByText := true, laidKinds := [.data, .data, .data], laidTests := true, laidLooks := .later }
def StatsTalliesCardSaid : Prop := Claim7.holds Tryd.pinned (.plain (OpenSpec.ofChange statsTalliesSpec)) statsTalliesCard

/-- THE TIED CARD OF 'librarylaw48.StatsCrosses'. -/
def statsCrossesCard : Claim7 := { stood := { row := statsCrossesRow, standIns := [], harness := (true, "80909459a3a780bd582940ee9a5188e865c4b334b8d24a577de6b865ee12c296"), looks := false }, kinds := [], alts := [], laidByText := true, laidKinds := [.data, .data, .data], laidTests := true, laidLooks := .later }
def StatsCrossesCardSaid : Prop := Claim7.holds Tryd.pinned (.plain (OpenSpec.ofChange statsCrossesSpec)) statsCrossesCard

/-- THE TIED CARD OF 'librarylaw48.StatsPrints'. -/
def statsPrintsCard : Claim7 := { stood := { row := statsPrintsRow, standIns := [], harness := (true, "80909459a3a780bd582940ee9a5188e865c4b334b8d24a577de6b865ee12c296"), looks := false }, kinds := [], alts := [], laidByText := true, laidKinds := [.data, .data, .data], laidTests := true, laidLooks := .later }
def StatsPrintsCardSaid : Prop := Claim7.holds Tryd.pinned (.plain (OpenSpec.ofChange statsPrintsSpec)) statsPrintsCard

/-- THE TIED CARD OF 'librarylaw48.StatsSums'. -/
def statsSumsCard : Claim7 := { stood := { row := statsSumsRow, standIns := [], harness := (true, "80909459a3a780bd582940ee9a5188e865c4b334b8d24a577de6b865ee12c296"), looks := false }, kinds := [], alts := [], laidByText := true, laidKinds := [.data, .data, .data], laidTests := true, laidLooks := .later }
def StatsSumsCardSaid : Prop := Claim7.holds Tryd.pinned (.plain (OpenSpec.ofChange statsSumsSpec)) statsSumsCard

/-- THE TIED CARD OF 'librarylaw48.StatsTurns'. -/
def statsTurnsCard : Claim7 := { stood := { row := statsTurnsRow, standIns := [], harness := (true, "80909459a3a780bd582940ee9a5188e865c4b334b8d24a577de6b865ee12c296"), looks := false }, kinds := [], alts := [], laidByText := true, laidKinds := [.data, .data, .data], laidTests := true, laidLooks := .later }
def StatsTurnsCardSaid : Prop := Claim7.holds Tryd.pinned (.plain (OpenSpec.ofChange statsTurnsSpec)) statsTurnsCard

/-- THE TIED CARD OF 'librarylaw48.StatsChecks'. -/
def statsChecksCard : Claim7 := { stood := { row := statsChecksRow, standIns := [], harness := (true, "80909459a3a780bd582940ee9a5188e865c4b334b8d24a577de6b865ee12c296"), looks := false }, kinds := [], alts := [], laidByText := true, laidKinds := [.data, .data, .data], laidTests := true, laidLooks := .later }
def StatsChecksCardSaid : Prop := Claim7.holds Tryd.pinned (.plain (OpenSpec.ofChange statsChecksSpec)) statsChecksCard

/-- THE SECOND FORM's CARD OF 'librarylaw48.StatsKeys'. -/
def statsKeysUptoCard : Claim7 := { stood := { row := statsKeysUptoRow, standIns := [], harness := (true, "80909459a3a780bd582940ee9a5188e865c4b334b8d24a577de6b865ee12c296"), looks := false }, kinds := [], alts := [], laidByText := true, laidKinds := [.data, .data, .data], laidTests := true, laidLooks := .later }
def StatsKeysUptoCardSaid : Prop := Claim7.holds Tryd.pinned (.plain (OpenSpec.upto statsKeysSpec)) statsKeysUptoCard

/-- THE SECOND FORM's CARD OF 'librarylaw48.StatsTallies'. -/
def statsTalliesUptoCard : Claim7 := { stood := { row := statsTalliesUptoRow, standIns := [], harness := (true, "80909459a3a780bd582940ee9a5188e865c4b334b8d24a577de6b865ee12c296"), looks := false }, kinds := [], alts := [], laidByText := true, laidKinds := [.data, .data, .data], laidTests := true, laidLooks := .later }
def StatsTalliesUptoCardSaid : Prop := Claim7.holds Tryd.pinned (.plain (OpenSpec.upto statsTalliesSpec)) statsTalliesUptoCard

/-- THE SECOND FORM's CARD OF 'librarylaw48.StatsCrosses'. -/
def statsCrossesUptoCard : Claim7 := { stood := { row := statsCrossesUptoRow, standIns := [], harness := (true, "80909459a3a780bd582940ee9a5188e865c4b334b8d24a577de6b865ee12c296"), looks := false }, kinds := [], alts := [], laidByText := true, laidKinds := [.data, .data, .data], laidTests := true, laidLooks := .later }
def StatsCrossesUptoCardSaid : Prop := Claim7.holds Tryd.pinned (.plain (OpenSpec.upto statsCrossesSpec)) statsCrossesUptoCard

/-- THE SECOND FORM's CARD OF 'librarylaw48.StatsPrints'. -/
def statsPrintsUptoCard : Claim7 := { stood := { row := statsPrintsUptoRow, standIns := [], harness := (true, "80909459a3a780bd582940ee9a5188e865c4b334b8d24a577de6b865ee12c296"), looks := false }, kinds := [], alts := [], laidByText := true, laidKinds := [.data, .data, .data], laidTests := true, laidLooks := .later }
def StatsPrintsUptoCardSaid : Prop := Claim7.holds Tryd.pinned (.plain (OpenSpec.upto statsPrintsSpec)) statsPrintsUptoCard

/-- THE SECOND FORM's CARD OF 'librarylaw48.StatsSums'. -/
def statsSumsUptoCard : Claim7 := { stood := { row := statsSumsUptoRow, standIns := [], harness := (true, "80909459a3a780bd582940ee9a5188e865c4b334b8d24a577de6b865ee12c296"), looks := false }, kinds := [], alts := [], laidByText := true, laidKinds := [.data, .data, .data], laidTests := true, laidLooks := .later }
def StatsSumsUptoCardSaid : Prop := Claim7.holds Tryd.pinned (.plain (OpenSpec.upto statsSumsSpec)) statsSumsUptoCard

/-- THE SECOND FORM's CARD OF 'librarylaw48.StatsTurns'. -/
def statsTurnsUptoCard : Claim7 := { stood := { row := statsTurnsUptoRow, standIns := [], harness := (true, "80909459a3a780bd582940ee9a5188e865c4b334b8d24a577de6b865ee12c296"), looks := false }, kinds := [], alts := [], laidByText := true, laidKinds := [.data, .data, .data], laidTests := true, laidLooks := .later }
def StatsTurnsUptoCardSaid : Prop := Claim7.holds Tryd.pinned (.plain (OpenSpec.upto statsTurnsSpec)) statsTurnsUptoCard

/-- THE SECOND FORM's CARD OF 'librarylaw48.StatsChecks'. -/
def statsChecksUptoCard : Claim7 := { stood := { row := statsChecksUptoRow, standIns := [], harness := (true, "80909459a3a780bd582940ee9a5188e865c4b334b8d24a577de6b865ee12c296"), looks := false }, kinds := [], alts := [], laidByText := true, laidKinds := [.data, .data, .data], laidTests := true, laidLooks := .later }
def StatsChecksUptoCardSaid : Prop := Claim7.holds Tryd.pinned (.plain (OpenSpec.upto statsChecksSpec)) statsChecksUptoCard
end Rows
end Go.Proofs.YtglonmggpbajgaaDoor
