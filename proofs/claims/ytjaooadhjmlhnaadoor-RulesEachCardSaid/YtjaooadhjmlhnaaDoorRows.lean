/-
  NARROWER THAN 'FOR EVERY INPUT', by the rows' own cells (each row's printed sentence says how): RulesFind: laid · RulesChecks: laid · RulesUsual: laid · RulesEmpty: laid · RulesEach: laid.
  DERIVED. THE GIVEN ROWS OF THIS SEAT. 5 by the template 'for every input the law returns true; each argument reads behind the call as it read before'; 0 by the template 'total and deterministic' (their statements: YtjaooadhjmlhnaaDoorTotals.lean).
  GIVEN WITH THE SEED: the statements are not yours to turn. If you find one false, say at which input.
  Laid BY PROGRAM, IN A SANDBOX (cutbox-rows.mjs): the forced cells as the released guide's own fill.sh prints them over the translation 9e554c3e42be3ac1… (all of the seat's roots in one cut). By AI agents, Wed Nov 11 2026. No macro, syntax, notation, axiom, sorry.
-/
import Derived.Test.YtjaooadhjmlhnaaDoorChecked
import GoSem.Claim
import GoSem.ClaimJoined
import GoSem.ClaimMapViews
import Derived.JoinedTies
import Derived.KernelRfl
namespace Go.Proofs.YtjaooadhjmlhnaaDoor
/- THE CELL 'sum', in the pinned program and in every row, IS THE sha256 OF THE DUMP (.gsa) THAT YtjaooadhjmlhnaaDoorProg.lean LOADS. Nothing in Lean hashes anything: it is a label: what it is worth is what the hold of that sum in a sandbox is worth. -/
noncomputable def Tryd.pinned : Pinned := { name := "ytjaooadhjmlhnaadoor", sum := "9e554c3e42be3ac18d1cfe75ad655067a499ee23d9ac342c764a548174e141f8", checked := Tryd.checked }
namespace Rows
def none {H : Type} : Left H := { results := [], args := [] }

/- WHAT THE LISTED PACKAGE-LEVEL VARIABLES READ AS WHEN THE CALL BEGINS. Each datum BY PROGRAM (the guide's laid-datum.mjs) off the statement by which the dump's own 'gosem.cut.vars' lays the variable. In a bare row this is a premise. The card (YtjaooadhjmlhnaaDoorCards.lean) ties it to the program's text. -/
def laid_library_rules_standard {H : Type} : DataW H := .agg [.agg [.lit (.string [48, 50, 48]), .lit (.bool true), .lit (.bool false), .lit (.string [97, 122]), .lit (.string []), .lit (.string []), .lit (.int .i64 0)], .agg [.lit (.string [48, 50, 50]), .lit (.bool true), .lit (.bool false), .lit (.string [97]), .lit (.string []), .lit (.string []), .lit (.int .i64 0)], .agg [.lit (.string [48, 52, 49]), .lit (.bool true), .lit (.bool false), .lit (.string [97]), .lit (.string []), .lit (.string []), .lit (.int .i64 0)], .agg [.lit (.string [49, 48, 48]), .lit (.bool false), .lit (.bool false), .lit (.string [52, 97, 100]), .lit (.string [97]), .lit (.string [97]), .lit (.int .i64 1)], .agg [.lit (.string [49, 49, 48]), .lit (.bool false), .lit (.bool false), .lit (.string [97, 98]), .lit (.string [97]), .lit (.string [97]), .lit (.int .i64 2)], .agg [.lit (.string [50, 52, 53]), .lit (.bool false), .lit (.bool true), .lit (.string [97, 98, 99, 110, 112]), .lit (.string [97, 99]), .lit (.string [97]), .lit (.int .i64 0)], .agg [.lit (.string [50, 52, 54]), .lit (.bool true), .lit (.bool false), .lit (.string [97, 98]), .lit (.string [97]), .lit (.string [97]), .lit (.int .i64 0)], .agg [.lit (.string [50, 53, 48]), .lit (.bool false), .lit (.bool false), .lit (.string [97, 98]), .lit (.string []), .lit (.string []), .lit (.int .i64 0)], .agg [.lit (.string [50, 54, 48]), .lit (.bool true), .lit (.bool false), .lit (.string [97, 98, 99]), .lit (.string []), .lit (.string []), .lit (.int .i64 0)], .agg [.lit (.string [50, 54, 52]), .lit (.bool true), .lit (.bool false), .lit (.string [97, 98, 99]), .lit (.string []), .lit (.string []), .lit (.int .i64 0)], .agg [.lit (.string [51, 48, 48]), .lit (.bool true), .lit (.bool false), .lit (.string [97, 98, 99]), .lit (.string []), .lit (.string []), .lit (.int .i64 0)], .agg [.lit (.string [52, 52, 48]), .lit (.bool true), .lit (.bool false), .lit (.string [97, 118]), .lit (.string [97]), .lit (.string [97]), .lit (.int .i64 4)], .agg [.lit (.string [52, 57, 48]), .lit (.bool true), .lit (.bool false), .lit (.string [97, 118]), .lit (.string [97]), .lit (.string [97]), .lit (.int .i64 0)], .agg [.lit (.string [53, 48, 48]), .lit (.bool true), .lit (.bool false), .lit (.string [97]), .lit (.string [97]), .lit (.string [97]), .lit (.int .i64 0)], .agg [.lit (.string [53, 50, 48]), .lit (.bool true), .lit (.bool false), .lit (.string [97]), .lit (.string []), .lit (.string []), .lit (.int .i64 0)], .agg [.lit (.string [54, 48, 48]), .lit (.bool true), .lit (.bool false), .lit (.string [97, 100, 120, 121, 122]), .lit (.string [97]), .lit (.string [97]), .lit (.int .i64 1)], .agg [.lit (.string [54, 49, 48]), .lit (.bool true), .lit (.bool false), .lit (.string [97, 98, 120, 121, 122]), .lit (.string [97]), .lit (.string [97]), .lit (.int .i64 2)], .agg [.lit (.string [54, 53, 48]), .lit (.bool true), .lit (.bool false), .lit (.string [97, 120, 121, 122]), .lit (.string [97]), .lit (.string [97]), .lit (.int .i64 3)], .agg [.lit (.string [54, 53, 49]), .lit (.bool true), .lit (.bool false), .lit (.string [97, 120, 121, 122]), .lit (.string [97]), .lit (.string [97]), .lit (.int .i64 3)], .agg [.lit (.string [55, 48, 48]), .lit (.bool true), .lit (.bool false), .lit (.string [52, 97, 100]), .lit (.string [97]), .lit (.string [97]), .lit (.int .i64 1)], .agg [.lit (.string [55, 49, 48]), .lit (.bool true), .lit (.bool false), .lit (.string [97, 98]), .lit (.string [97]), .lit (.string [97]), .lit (.int .i64 2)], .agg [.lit (.string [55, 55, 54]), .lit (.bool true), .lit (.bool false), .lit (.string [116, 119]), .lit (.string []), .lit (.string []), .lit (.int .i64 0)], .agg [.lit (.string [55, 56, 55]), .lit (.bool true), .lit (.bool false), .lit (.string [116, 119]), .lit (.string []), .lit (.string []), .lit (.int .i64 0)], .agg [.lit (.string [56, 51, 48]), .lit (.bool true), .lit (.bool false), .lit (.string [97, 118]), .lit (.string [97]), .lit (.string [97]), .lit (.int .i64 4)], .agg [.lit (.string [56, 53, 54]), .lit (.bool true), .lit (.bool false), .lit (.string [117, 122]), .lit (.string []), .lit (.string []), .lit (.int .i64 0)]]

/-- 'librarylaw09.RulesFind': WHATEVER THE INPUT: true; the input reads as it did. -/
def rulesFindSpec : ChangeSpec := { name := "rulesFind", fn := fun _ => fun
  | [d1, d2] => { results := [.lit (.bool true)], args := [d1, d2] }
  | _ => none }
def rulesFindRow : OpenClaim := { program := "ytjaooadhjmlhnaadoor", sum := "9e554c3e42be3ac18d1cfe75ad655067a499ee23d9ac342c764a548174e141f8", func := "library/librarylaw09.RulesFind", spec := "rulesFind", inPlace := ["internal/bytealg.IndexByteString"], unfollowed := true, recurses := true, named := ["library/rules.standard"], apart := false, laid := [("library/rules.standard", laid_library_rules_standard)] }
def RulesFindSaid : Prop := rulesFindRow.holds Tryd.pinned (OpenSpec.ofChange rulesFindSpec)

/-- ITS FALSE NEIGHBOUR: 'it returns false'. Refute it at one input. -/
def rulesFindWrong : ChangeSpec := { name := "rulesFind", fn := fun _ => fun
  | [d1, d2] => { results := [.lit (.bool false)], args := [d1, d2] }
  | _ => none }
def RulesFindWrongFalsely : Prop := rulesFindRow.holds Tryd.pinned (OpenSpec.ofChange rulesFindWrong)

/-- 'librarylaw09.RulesChecks': WHATEVER THE INPUT: true; the input reads as it did. -/
def rulesChecksSpec : ChangeSpec := { name := "rulesChecks", fn := fun _ => fun
  | [d1, d2] => { results := [.lit (.bool true)], args := [d1, d2] }
  | _ => none }
def rulesChecksRow : OpenClaim := { program := "ytjaooadhjmlhnaadoor", sum := "9e554c3e42be3ac18d1cfe75ad655067a499ee23d9ac342c764a548174e141f8", func := "library/librarylaw09.RulesChecks", spec := "rulesChecks", inPlace := ["internal/bytealg.IndexByteString"], unfollowed := true, recurses := true, named := ["library/rules.standard"], apart := false, laid := [("library/rules.standard", laid_library_rules_standard)] }
def RulesChecksSaid : Prop := rulesChecksRow.holds Tryd.pinned (OpenSpec.ofChange rulesChecksSpec)

/-- ITS FALSE NEIGHBOUR: 'it returns false'. Refute it at one input. -/
def rulesChecksWrong : ChangeSpec := { name := "rulesChecks", fn := fun _ => fun
  | [d1, d2] => { results := [.lit (.bool false)], args := [d1, d2] }
  | _ => none }
def RulesChecksWrongFalsely : Prop := rulesChecksRow.holds Tryd.pinned (OpenSpec.ofChange rulesChecksWrong)

/-- 'librarylaw09.RulesUsual': WHATEVER THE INPUT: true; the input reads as it did. -/
def rulesUsualSpec : ChangeSpec := { name := "rulesUsual", fn := fun _ => fun
  | [d] => { results := [.lit (.bool true)], args := [d] }
  | _ => none }
def rulesUsualRow : OpenClaim := { program := "ytjaooadhjmlhnaadoor", sum := "9e554c3e42be3ac18d1cfe75ad655067a499ee23d9ac342c764a548174e141f8", func := "library/librarylaw09.RulesUsual", spec := "rulesUsual", inPlace := ["internal/bytealg.IndexByteString"], unfollowed := true, recurses := true, named := ["library/rules.standard"], apart := false, laid := [("library/rules.standard", laid_library_rules_standard)] }
def RulesUsualSaid : Prop := rulesUsualRow.holds Tryd.pinned (OpenSpec.ofChange rulesUsualSpec)

/-- ITS FALSE NEIGHBOUR: 'it returns false'. Refute it at one input. -/
def rulesUsualWrong : ChangeSpec := { name := "rulesUsual", fn := fun _ => fun
  | [d] => { results := [.lit (.bool false)], args := [d] }
  | _ => none }
def RulesUsualWrongFalsely : Prop := rulesUsualRow.holds Tryd.pinned (OpenSpec.ofChange rulesUsualWrong)

/-- 'librarylaw09.RulesEmpty': WHATEVER THE INPUT: true; the input reads as it did. -/
def rulesEmptySpec : ChangeSpec := { name := "rulesEmpty", fn := fun _ => fun
  | [d] => { results := [.lit (.bool true)], args := [d] }
  | _ => none }
def rulesEmptyRow : OpenClaim := { program := "ytjaooadhjmlhnaadoor", sum := "9e554c3e42be3ac18d1cfe75ad655067a499ee23d9ac342c764a548174e141f8", func := "library/librarylaw09.RulesEmpty", spec := "rulesEmpty", inPlace := ["internal/bytealg.IndexByteString"], unfollowed := true, recurses := true, named := ["library/rules.standard"], apart := false, laid := [("library/rules.standard", laid_library_rules_standard)] }
def RulesEmptySaid : Prop := rulesEmptyRow.holds Tryd.pinned (OpenSpec.ofChange rulesEmptySpec)

/-- ITS FALSE NEIGHBOUR: 'it returns false'. Refute it at one input. -/
def rulesEmptyWrong : ChangeSpec := { name := "rulesEmpty", fn := fun _ => fun
  | [d] => { results := [.lit (.bool false)], args := [d] }
  | _ => none }
def RulesEmptyWrongFalsely : Prop := rulesEmptyRow.holds Tryd.pinned (OpenSpec.ofChange rulesEmptyWrong)

/-- 'librarylaw09.RulesEach': WHATEVER THE INPUT: true; the input reads as it did. -/
def rulesEachSpec : ChangeSpec := { name := "rulesEach", fn := fun _ => fun
  | [d1, d2] => { results := [.lit (.bool true)], args := [d1, d2] }
  | _ => none }
def rulesEachRow : OpenClaim := { program := "ytjaooadhjmlhnaadoor", sum := "9e554c3e42be3ac18d1cfe75ad655067a499ee23d9ac342c764a548174e141f8", func := "library/librarylaw09.RulesEach", spec := "rulesEach", inPlace := ["internal/bytealg.IndexByteString"], unfollowed := true, recurses := true, named := ["library/rules.standard"], apart := false, laid := [("library/rules.standard", laid_library_rules_standard)] }
def RulesEachSaid : Prop := rulesEachRow.holds Tryd.pinned (OpenSpec.ofChange rulesEachSpec)

/-- ITS FALSE NEIGHBOUR: 'it returns false'. Refute it at one input. -/
def rulesEachWrong : ChangeSpec := { name := "rulesEach", fn := fun _ => fun
  | [d1, d2] => { results := [.lit (.bool false)], args := [d1, d2] }
  | _ => none }
def RulesEachWrongFalsely : Prop := rulesEachRow.holds Tryd.pinned (OpenSpec.ofChange rulesEachWrong)

/- THE SECOND FORM. 'bulk': how many values and letters a reading holds, each counted each time it is reached (what is shared counts as often as it is met; a slice's spare places count too). A statement '..UptoSaid' is the law's where the arguments, and the package variables that the reading takes, are together of bulk at most 1048576: NARROWER than '..Said'. Prove '..Said' where nothing that the law and all that it calls make is longer than what came in: it says more and counts as full. Else prove '..UptoSaid'. A law counts once. -/
mutual
def uptoBulk {H : Type} : DataW H → Nat
  | .lit (.string bytes) => bytes.length + 1
  | .lit _ => 1
  | .nil => 1
  | .ptr d => uptoBulk d + 1
  | .slice elems spare => uptoBulkAll elems + uptoBulkAll spare + 1
  | .agg parts => uptoBulkAll parts + 1
  | .iface _ d => uptoBulk d + 1
  | .map entries => uptoBulkEntries entries + 1
  | .held _ => 1
def uptoBulkAll {H : Type} : List (DataW H) → Nat
  | [] => 0
  | d :: r => uptoBulk d + uptoBulkAll r
def uptoBulkEntries {H : Type} : List (Lit × DataW H) → Nat
  | [] => 0
  | x :: r => uptoBulkEntry x + uptoBulkEntries r
def uptoBulkEntry {H : Type} : Lit × DataW H → Nat
  | (.string bytes, d) => bytes.length + uptoBulk d + 1
  | (_, d) => uptoBulk d + 1
 end
def uptoSmall : (H : Type) → List (DataW H) → Bool := fun _ ds => decide (uptoBulkAll ds ≤ 1048576)
def OpenSpec.upto (s : _root_.Go.ChangeSpec) : _root_.Go.OpenSpec := { _root_.Go.OpenSpec.ofChange s with cond := some uptoSmall }

/-- 'librarylaw09.RulesFind', WHERE WHAT IT READS IS OF BULK AT MOST 1048576: true; the input reads as it did. -/
def rulesFindUptoRow : OpenClaim := { program := "ytjaooadhjmlhnaadoor", sum := "9e554c3e42be3ac18d1cfe75ad655067a499ee23d9ac342c764a548174e141f8", func := "library/librarylaw09.RulesFind", spec := "rulesFind", inPlace := ["internal/bytealg.IndexByteString"], unfollowed := true, recurses := true, named := ["library/rules.standard"], apart := false, laid := [("library/rules.standard", laid_library_rules_standard)], narrowed := true }
def RulesFindUptoSaid : Prop := rulesFindUptoRow.holds Tryd.pinned (OpenSpec.upto rulesFindSpec)

/-- 'librarylaw09.RulesChecks', WHERE WHAT IT READS IS OF BULK AT MOST 1048576: true; the input reads as it did. -/
def rulesChecksUptoRow : OpenClaim := { program := "ytjaooadhjmlhnaadoor", sum := "9e554c3e42be3ac18d1cfe75ad655067a499ee23d9ac342c764a548174e141f8", func := "library/librarylaw09.RulesChecks", spec := "rulesChecks", inPlace := ["internal/bytealg.IndexByteString"], unfollowed := true, recurses := true, named := ["library/rules.standard"], apart := false, laid := [("library/rules.standard", laid_library_rules_standard)], narrowed := true }
def RulesChecksUptoSaid : Prop := rulesChecksUptoRow.holds Tryd.pinned (OpenSpec.upto rulesChecksSpec)

/-- 'librarylaw09.RulesUsual', WHERE WHAT IT READS IS OF BULK AT MOST 1048576: true; the input reads as it did. -/
def rulesUsualUptoRow : OpenClaim := { program := "ytjaooadhjmlhnaadoor", sum := "9e554c3e42be3ac18d1cfe75ad655067a499ee23d9ac342c764a548174e141f8", func := "library/librarylaw09.RulesUsual", spec := "rulesUsual", inPlace := ["internal/bytealg.IndexByteString"], unfollowed := true, recurses := true, named := ["library/rules.standard"], apart := false, laid := [("library/rules.standard", laid_library_rules_standard)], narrowed := true }
def RulesUsualUptoSaid : Prop := rulesUsualUptoRow.holds Tryd.pinned (OpenSpec.upto rulesUsualSpec)

/-- 'librarylaw09.RulesEmpty', WHERE WHAT IT READS IS OF BULK AT MOST 1048576: true; the input reads as it did. -/
def rulesEmptyUptoRow : OpenClaim := { program := "ytjaooadhjmlhnaadoor", sum := "9e554c3e42be3ac18d1cfe75ad655067a499ee23d9ac342c764a548174e141f8", func := "library/librarylaw09.RulesEmpty", spec := "rulesEmpty", inPlace := ["internal/bytealg.IndexByteString"], unfollowed := true, recurses := true, named := ["library/rules.standard"], apart := false, laid := [("library/rules.standard", laid_library_rules_standard)], narrowed := true }
def RulesEmptyUptoSaid : Prop := rulesEmptyUptoRow.holds Tryd.pinned (OpenSpec.upto rulesEmptySpec)

/-- 'librarylaw09.RulesEach', WHERE WHAT IT READS IS OF BULK AT MOST 1048576: true; the input reads as it did. -/
def rulesEachUptoRow : OpenClaim := { program := "ytjaooadhjmlhnaadoor", sum := "9e554c3e42be3ac18d1cfe75ad655067a499ee23d9ac342c764a548174e141f8", func := "library/librarylaw09.RulesEach", spec := "rulesEach", inPlace := ["internal/bytealg.IndexByteString"], unfollowed := true, recurses := true, named := ["library/rules.standard"], apart := false, laid := [("library/rules.standard", laid_library_rules_standard)], narrowed := true }
def RulesEachUptoSaid : Prop := rulesEachUptoRow.holds Tryd.pinned (OpenSpec.upto rulesEachSpec)

end Rows
end Go.Proofs.YtjaooadhjmlhnaaDoor
