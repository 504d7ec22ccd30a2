/-
  No cell of these rows narrows 'for every input' (looked for: loops, veiled, ifaces, maps, wideKeys, modest, calm, conditions, laid).
  DERIVED. THE GIVEN ROWS OF THIS SEAT. 6 by the template 'for every input the law returns true; each argument reads behind the call as it read before'; 0 by the template 'total and deterministic' (their statements: YtimehiamdikinaaTotals.lean).
  GIVEN WITH THE SEED: the statements are not yours to turn. If you find one false, say at which input.
  Laid BY PROGRAM, IN A SANDBOX (cutbox-rows.mjs): the forced cells as the released guide's own fill.sh prints them over the translation 7dde081873c7f67a… (all of the seat's roots in one cut). By AI agents, Wed Nov 11 2026. No macro, syntax, notation, axiom, sorry.
-/
import Derived.Test.YtimehiamdikinaaChecked
import GoSem.Claim
import GoSem.ClaimJoined
import GoSem.ClaimMapViews
import Derived.JoinedTies
import Derived.KernelRfl
namespace Go.Proofs.Ytimehiamdikinaa
/- THE CELL 'sum', in the pinned program and in every row, IS THE sha256 OF THE DUMP (.gsa) THAT YtimehiamdikinaaProg.lean LOADS. Nothing in Lean hashes anything: it is a label: what it is worth is what the hold of that sum in a sandbox is worth. -/
noncomputable def Try.pinned : Pinned := { name := "ytimehiamdikinaa", sum := "7dde081873c7f67aa8ebc58f2699b6fc8e7d97c143399761277b8fefc0e665f7", checked := Try.checked }
namespace Rows
def none {H : Type} : Left H := { results := [], args := [] }

/-- 'librarylaw45.FormatChecks': WHATEVER THE INPUT: true; the input reads as it did. -/
def formatChecksSpec : ChangeSpec := { name := "formatChecks", fn := fun _ => fun
  | [d] => { results := [.lit (.bool true)], args := [d] }
  | _ => none }
def formatChecksRow : OpenClaim := { program := "ytimehiamdikinaa", sum := "7dde081873c7f67aa8ebc58f2699b6fc8e7d97c143399761277b8fefc0e665f7", func := "library/librarylaw45.FormatChecks", spec := "formatChecks", unfollowed := true, recurses := true, apart := false }
def FormatChecksSaid : Prop := formatChecksRow.holds Try.pinned (OpenSpec.ofChange formatChecksSpec)

/-- ITS FALSE NEIGHBOUR: 'it returns false'. Refute it at one input. -/
def formatChecksWrong : ChangeSpec := { name := "formatChecks", fn := fun _ => fun
  | [d] => { results := [.lit (.bool false)], args := [d] }
  | _ => none }
def FormatChecksWrongFalsely : Prop := formatChecksRow.holds Try.pinned (OpenSpec.ofChange formatChecksWrong)

/-- 'librarylaw45.FormatPaths': WHATEVER THE INPUT: true; the input reads as it did. -/
def formatPathsSpec : ChangeSpec := { name := "formatPaths", fn := fun _ => fun
  | [d1, d2, d3] => { results := [.lit (.bool true)], args := [d1, d2, d3] }
  | _ => none }
def formatPathsRow : OpenClaim := { program := "ytimehiamdikinaa", sum := "7dde081873c7f67aa8ebc58f2699b6fc8e7d97c143399761277b8fefc0e665f7", func := "library/librarylaw45.FormatPaths", spec := "formatPaths", unfollowed := true, recurses := true, apart := false }
def FormatPathsSaid : Prop := formatPathsRow.holds Try.pinned (OpenSpec.ofChange formatPathsSpec)

/-- ITS FALSE NEIGHBOUR: 'it returns false'. Refute it at one input. -/
def formatPathsWrong : ChangeSpec := { name := "formatPaths", fn := fun _ => fun
  | [d1, d2, d3] => { results := [.lit (.bool false)], args := [d1, d2, d3] }
  | _ => none }
def FormatPathsWrongFalsely : Prop := formatPathsRow.holds Try.pinned (OpenSpec.ofChange formatPathsWrong)

/-- 'librarylaw45.FormatConverts': WHATEVER THE INPUT: true; the input reads as it did. -/
def formatConvertsSpec : ChangeSpec := { name := "formatConverts", fn := fun _ => fun
  | [d1, d2, d3] => { results := [.lit (.bool true)], args := [d1, d2, d3] }
  | _ => none }
def formatConvertsRow : OpenClaim := { program := "ytimehiamdikinaa", sum := "7dde081873c7f67aa8ebc58f2699b6fc8e7d97c143399761277b8fefc0e665f7", func := "library/librarylaw45.FormatConverts", spec := "formatConverts", unfollowed := true, recurses := true, apart := false }
def FormatConvertsSaid : Prop := formatConvertsRow.holds Try.pinned (OpenSpec.ofChange formatConvertsSpec)

/-- ITS FALSE NEIGHBOUR: 'it returns false'. Refute it at one input. -/
def formatConvertsWrong : ChangeSpec := { name := "formatConverts", fn := fun _ => fun
  | [d1, d2, d3] => { results := [.lit (.bool false)], args := [d1, d2, d3] }
  | _ => none }
def FormatConvertsWrongFalsely : Prop := formatConvertsRow.holds Try.pinned (OpenSpec.ofChange formatConvertsWrong)

/-- 'librarylaw45.FormatBack': WHATEVER THE INPUT: true; the input reads as it did. -/
def formatBackSpec : ChangeSpec := { name := "formatBack", fn := fun _ => fun
  | [d1, d2, d3, d4] => { results := [.lit (.bool true)], args := [d1, d2, d3, d4] }
  | _ => none }
def formatBackRow : OpenClaim := { program := "ytimehiamdikinaa", sum := "7dde081873c7f67aa8ebc58f2699b6fc8e7d97c143399761277b8fefc0e665f7", func := "library/librarylaw45.FormatBack", spec := "formatBack", unfollowed := true, recurses := true, apart := false }
def FormatBackSaid : Prop := formatBackRow.holds Try.pinned (OpenSpec.ofChange formatBackSpec)

/-- ITS FALSE NEIGHBOUR: 'it returns false'. Refute it at one input. -/
def formatBackWrong : ChangeSpec := { name := "formatBack", fn := fun _ => fun
  | [d1, d2, d3, d4] => { results := [.lit (.bool false)], args := [d1, d2, d3, d4] }
  | _ => none }
def FormatBackWrongFalsely : Prop := formatBackRow.holds Try.pinned (OpenSpec.ofChange formatBackWrong)

/-- 'librarylaw45.FormatKnows': WHATEVER THE INPUT: true; the input reads as it did. -/
def formatKnowsSpec : ChangeSpec := { name := "formatKnows", fn := fun _ => fun
  | [d1, d2, d3, d4] => { results := [.lit (.bool true)], args := [d1, d2, d3, d4] }
  | _ => none }
def formatKnowsRow : OpenClaim := { program := "ytimehiamdikinaa", sum := "7dde081873c7f67aa8ebc58f2699b6fc8e7d97c143399761277b8fefc0e665f7", func := "library/librarylaw45.FormatKnows", spec := "formatKnows", unfollowed := true, recurses := true, apart := false }
def FormatKnowsSaid : Prop := formatKnowsRow.holds Try.pinned (OpenSpec.ofChange formatKnowsSpec)

/-- ITS FALSE NEIGHBOUR: 'it returns false'. Refute it at one input. -/
def formatKnowsWrong : ChangeSpec := { name := "formatKnows", fn := fun _ => fun
  | [d1, d2, d3, d4] => { results := [.lit (.bool false)], args := [d1, d2, d3, d4] }
  | _ => none }
def FormatKnowsWrongFalsely : Prop := formatKnowsRow.holds Try.pinned (OpenSpec.ofChange formatKnowsWrong)

/-- 'librarylaw45.FormatBest': WHATEVER THE INPUT: true; the input reads as it did. -/
def formatBestSpec : ChangeSpec := { name := "formatBest", fn := fun _ => fun
  | [d1, d2, d3] => { results := [.lit (.bool true)], args := [d1, d2, d3] }
  | _ => none }
def formatBestRow : OpenClaim := { program := "ytimehiamdikinaa", sum := "7dde081873c7f67aa8ebc58f2699b6fc8e7d97c143399761277b8fefc0e665f7", func := "library/librarylaw45.FormatBest", spec := "formatBest", unfollowed := true, recurses := true, apart := false }
def FormatBestSaid : Prop := formatBestRow.holds Try.pinned (OpenSpec.ofChange formatBestSpec)

/-- ITS FALSE NEIGHBOUR: 'it returns false'. Refute it at one input. -/
def formatBestWrong : ChangeSpec := { name := "formatBest", fn := fun _ => fun
  | [d1, d2, d3] => { results := [.lit (.bool false)], args := [d1, d2, d3] }
  | _ => none }
def FormatBestWrongFalsely : Prop := formatBestRow.holds Try.pinned (OpenSpec.ofChange formatBestWrong)

/- THE SECOND FORM. 'bulk': how many values and letters a reading holds, each counted each time it is reached (what is shared counts as often as it is met; a slice's spare places count too). A statement '..UptoSaid' is the law's where the arguments, and the package variables that the reading takes, are together of bulk at most 1048576: NARROWER than '..Said'. Prove '..Said' where nothing that the law and all that it calls make is longer than what came in: it says more and counts as full. Else prove '..UptoSaid'. A law counts once. -/
mutual
def uptoBulk {H : Type} : DataW H → Nat
  | .lit (.string bytes) => bytes.length + 1
  | .lit _ => 1
  | .nil => 1
  | .ptr d => uptoBulk d + 1
  | .slice elems spare => uptoBulkAll elems + uptoBulkAll spare + 1
  | .agg parts => uptoBulkAll parts + 1
  | .iface _ d => uptoBulk d + 1
  | .map entries => uptoBulkEntries entries + 1
  | .held _ => 1
def uptoBulkAll {H : Type} : List (DataW H) → Nat
  | [] => 0
  | d :: r => uptoBulk d + uptoBulkAll r
def uptoBulkEntries {H : Type} : List (Lit × DataW H) → Nat
  | [] => 0
  | x :: r => uptoBulkEntry x + uptoBulkEntries r
def uptoBulkEntry {H : Type} : Lit × DataW H → Nat
  | (.string bytes, d) => bytes.length + uptoBulk d + 1
  | (_, d) => uptoBulk d + 1
 end
def uptoSmall : (H : Type) → List (DataW H) → Bool := fun _ ds => decide (uptoBulkAll ds ≤ 1048576)
def OpenSpec.upto (s : _root_.Go.ChangeSpec) : _root_.Go.OpenSpec := { _root_.Go.OpenSpec.ofChange s with cond := some uptoSmall }

/-- 'librarylaw45.FormatChecks', WHERE WHAT IT READS IS OF BULK AT MOST 1048576: true; the input reads as it did. -/
def formatChecksUptoRow : OpenClaim := { program := "ytimehiamdikinaa", sum := "7dde081873c7f67aa8ebc58f2699b6fc8e7d97c143399761277b8fefc0e665f7", func := "library/librarylaw45.FormatChecks", spec := "formatChecks", unfollowed := true, recurses := true, apart := false, narrowed := true }
def FormatChecksUptoSaid : Prop := formatChecksUptoRow.holds Try.pinned (OpenSpec.upto formatChecksSpec)

/-- 'librarylaw45.FormatPaths', WHERE WHAT IT READS IS OF BULK AT MOST 1048576: true; the input reads as it did. -/
def formatPathsUptoRow : OpenClaim := { program := "ytimehiamdikinaa", sum := "7dde081873c7f67aa8ebc58f2699b6fc8e7d97c143399761277b8fefc0e665f7", func := "library/librarylaw45.FormatPaths", spec := "formatPaths", unfollowed := true, recurses := true, apart := false, narrowed := true }
def FormatPathsUptoSaid : Prop := formatPathsUptoRow.holds Try.pinned (OpenSpec.upto formatPathsSpec)

/-- 'librarylaw45.FormatConverts', WHERE WHAT IT READS IS OF BULK AT MOST 1048576: true; the input reads as it did. -/
def formatConvertsUptoRow : OpenClaim := { program := "ytimehiamdikinaa", sum := "7dde081873c7f67aa8ebc58f2699b6fc8e7d97c143399761277b8fefc0e665f7", func := "library/librarylaw45.FormatConverts", spec := "formatConverts", unfollowed := true, recurses := true, apart := false, narrowed := true }
def FormatConvertsUptoSaid : Prop := formatConvertsUptoRow.holds Try.pinned (OpenSpec.upto formatConvertsSpec)

/-- 'librarylaw45.FormatBack', WHERE WHAT IT READS IS OF BULK AT MOST 1048576: true; the input reads as it did. -/
def formatBackUptoRow : OpenClaim := { program := "ytimehiamdikinaa", sum := "7dde081873c7f67aa8ebc58f2699b6fc8e7d97c143399761277b8fefc0e665f7", func := "library/librarylaw45.FormatBack", spec := "formatBack", unfollowed := true, recurses := true, apart := false, narrowed := true }
def FormatBackUptoSaid : Prop := formatBackUptoRow.holds Try.pinned (OpenSpec.upto formatBackSpec)

/-- 'librarylaw45.FormatKnows', WHERE WHAT IT READS IS OF BULK AT MOST 1048576: true; the input reads as it did. -/
def formatKnowsUptoRow : OpenClaim := { program := "ytimehiamdikinaa", sum := "7dde081873c7f67aa8ebc58f2699b6fc8e7d97c143399761277b8fefc0e665f7", func := "library/librarylaw45.FormatKnows", spec := "formatKnows", unfollowed := true, recurses := true, apart := false, narrowed := true }
def FormatKnowsUptoSaid : Prop := formatKnowsUptoRow.holds Try.pinned (OpenSpec.upto formatKnowsSpec)

/-- 'librarylaw45.FormatBest', WHERE WHAT IT READS IS OF BULK AT MOST 1048576: true; the input reads as it did. -/
def formatBestUptoRow : OpenClaim := { program := "ytimehiamdikinaa", sum := "7dde081873c7f67aa8ebc58f2699b6fc8e7d97c143399761277b8fefc0e665f7", func := "library/librarylaw45.FormatBest", spec := "formatBest", unfollowed := true, recurses := true, apart := false, narrowed := true }
def FormatBestUptoSaid : Prop := formatBestUptoRow.holds Try.pinned (OpenSpec.upto formatBestSpec)

end Rows
end Go.Proofs.Ytimehiamdikinaa
