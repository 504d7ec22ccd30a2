/-
  NARROWER THAN 'FOR EVERY INPUT', by the rows' own cells (each row's printed sentence says how): IllAllowed: laid · IllTwice: laid · IllOrder: laid · IllRight: laid · IllAsks: laid · IllSays: laid · IllHears: laid · IllOpens: laid · PartnerAsks: laid · PartnerHears: laid · PartnerCompares: laid · PartnerSays: laid · PartnerDelivers: laid · PartnerChecks: laid · PartnerKeeps: laid · PartnerSettles: laid.
  DERIVED. THE GIVEN ROWS OF THIS SEAT. 16 by the template 'for every input the law returns true; each argument reads behind the call as it read before'; 0 by the template 'total and deterministic' (their statements: YticdcapnomageaaDoorTotals.lean).
  GIVEN WITH THE SEED: the statements are not yours to turn. If you find one false, say at which input.
  Laid BY PROGRAM, IN A SANDBOX (cutbox-rows.mjs): the forced cells as the released guide's own fill.sh prints them over the translation b1f4d675cc1fd18a… (all of the seat's roots in one cut). By AI agents, Wed Nov 11 2026. No macro, syntax, notation, axiom, sorry.
-/
import Derived.Test.YticdcapnomageaaDoorChecked
import GoSem.PinnedTables
import GoSem.Claim
import GoSem.ClaimJoined
import GoSem.ClaimMapViews
import Derived.JoinedTies
import Derived.KernelRfl
namespace Go.Proofs.YticdcapnomageaaDoor
/- THE CELL 'sum', in the pinned program and in every row, IS THE sha256 OF THE DUMP (.gsa) THAT YticdcapnomageaaDoorProg.lean LOADS. Nothing in Lean hashes anything: it is a label: what it is worth is what the hold of that sum in a sandbox is worth. -/
noncomputable def Tryd.pinned : Pinned := { name := "yticdcapnomageaadoor", sum := "b1f4d675cc1fd18a0c0510da0e6ebe49e73b3ee34342c076e4b733a20d01f629", checked := Tryd.checked }
namespace Rows
def none {H : Type} : Left H := { results := [], args := [] }

/- WHAT THE LISTED PACKAGE-LEVEL VARIABLES READ AS WHEN THE CALL BEGINS. Each datum BY PROGRAM (the guide's laid-datum.mjs) off the statement by which the dump's own 'gosem.cut.vars' lays the variable. In a bare row this is a premise. The card (YticdcapnomageaaDoorCards.lean) ties it to the program's text. -/
def laid_unicode_utf8_acceptRanges {H : Type} : DataW H := .agg [.agg [.lit (.int .u8 128), .lit (.int .u8 191)], .agg [.lit (.int .u8 160), .lit (.int .u8 191)], .agg [.lit (.int .u8 128), .lit (.int .u8 159)], .agg [.lit (.int .u8 144), .lit (.int .u8 191)], .agg [.lit (.int .u8 128), .lit (.int .u8 143)], .agg [.lit (.int .u8 0), .lit (.int .u8 0)], .agg [.lit (.int .u8 0), .lit (.int .u8 0)], .agg [.lit (.int .u8 0), .lit (.int .u8 0)], .agg [.lit (.int .u8 0), .lit (.int .u8 0)], .agg [.lit (.int .u8 0), .lit (.int .u8 0)], .agg [.lit (.int .u8 0), .lit (.int .u8 0)], .agg [.lit (.int .u8 0), .lit (.int .u8 0)], .agg [.lit (.int .u8 0), .lit (.int .u8 0)], .agg [.lit (.int .u8 0), .lit (.int .u8 0)], .agg [.lit (.int .u8 0), .lit (.int .u8 0)], .agg [.lit (.int .u8 0), .lit (.int .u8 0)]]
def laid_library_ill_messages {H : Type} : DataW H := .agg [.agg [.lit (.int .i64 0), .nil, .lit (.int .i64 0), .lit (.int .i64 0), .nil], .agg [.lit (.int .i64 1), .nil, .lit (.int .i64 1), .lit (.int .i64 0), .slice [.lit (.int .i64 0)] []], .agg [.lit (.int .i64 2), .slice [.lit (.int .i64 1)] [], .lit (.int .i64 2), .lit (.int .i64 0), .slice [.lit (.int .i64 1)] []], .agg [.lit (.int .i64 2), .slice [.lit (.int .i64 1)] [], .lit (.int .i64 8), .lit (.int .i64 0), .slice [.lit (.int .i64 1), .lit (.int .i64 9)] []], .agg [.lit (.int .i64 2), .slice [.lit (.int .i64 2)] [], .lit (.int .i64 3), .lit (.int .i64 1), .slice [.lit (.int .i64 2), .lit (.int .i64 9)] []], .agg [.lit (.int .i64 1), .slice [.lit (.int .i64 3)] [], .lit (.int .i64 4), .lit (.int .i64 0), .slice [.lit (.int .i64 3)] []], .agg [.lit (.int .i64 1), .slice [.lit (.int .i64 4)] [], .lit (.int .i64 5), .lit (.int .i64 0), .slice [.lit (.int .i64 4)] []], .agg [.lit (.int .i64 2), .slice [.lit (.int .i64 5)] [], .lit (.int .i64 4), .lit (.int .i64 1), .slice [.lit (.int .i64 5)] []], .agg [.lit (.int .i64 2), .slice [.lit (.int .i64 4)] [], .lit (.int .i64 0), .lit (.int .i64 2), .nil], .agg [.lit (.int .i64 1), .slice [.lit (.int .i64 4)] [], .lit (.int .i64 6), .lit (.int .i64 0), .slice [.lit (.int .i64 4)] []], .agg [.lit (.int .i64 2), .slice [.lit (.int .i64 6)] [], .lit (.int .i64 7), .lit (.int .i64 0), .slice [.lit (.int .i64 6)] []], .agg [.lit (.int .i64 1), .slice [.lit (.int .i64 1), .lit (.int .i64 2)] [], .lit (.int .i64 9), .lit (.int .i64 0), .slice [.lit (.int .i64 1), .lit (.int .i64 2)] []]]
/-- One of Go's own tables, pinned by name: the form's constant. -/
def laid_unicode_utf8_first : DataW Unit := Go.Pinned.utf8First

/-- 'librarylaw42.IllAllowed': WHATEVER THE INPUT: true; the input reads as it did. -/
def illAllowedSpec : ChangeSpec := { name := "illAllowed", fn := fun _ => fun
  | [d1, d2, d3] => { results := [.lit (.bool true)], args := [d1, d2, d3] }
  | _ => none }
def illAllowedRow : OpenClaim := { program := "yticdcapnomageaadoor", sum := "b1f4d675cc1fd18a0c0510da0e6ebe49e73b3ee34342c076e4b733a20d01f629", func := "library/librarylaw42.IllAllowed", spec := "illAllowed", inPlace := ["internal/abi.NoEscape", "internal/bytealg.MakeNoZero", "slices.overlaps[library/api.IllMsg]"], unfollowed := true, recurses := true, named := ["unicode/utf8.first", "unicode/utf8.acceptRanges", "library/ill.messages"], apart := false, laid := [("unicode/utf8.acceptRanges", laid_unicode_utf8_acceptRanges), ("library/ill.messages", laid_library_ill_messages), ("unicode/utf8.first", laid_unicode_utf8_first)] }
def IllAllowedSaid : Prop := illAllowedRow.holds Tryd.pinned (OpenSpec.ofChange illAllowedSpec)

/-- ITS FALSE NEIGHBOUR: 'it returns false'. Refute it at one input. -/
def illAllowedWrong : ChangeSpec := { name := "illAllowed", fn := fun _ => fun
  | [d1, d2, d3] => { results := [.lit (.bool false)], args := [d1, d2, d3] }
  | _ => none }
def IllAllowedWrongFalsely : Prop := illAllowedRow.holds Tryd.pinned (OpenSpec.ofChange illAllowedWrong)

/-- 'librarylaw42.IllTwice': WHATEVER THE INPUT: true; the input reads as it did. -/
def illTwiceSpec : ChangeSpec := { name := "illTwice", fn := fun _ => fun
  | [d1, d2, d3] => { results := [.lit (.bool true)], args := [d1, d2, d3] }
  | _ => none }
def illTwiceRow : OpenClaim := { program := "yticdcapnomageaadoor", sum := "b1f4d675cc1fd18a0c0510da0e6ebe49e73b3ee34342c076e4b733a20d01f629", func := "library/librarylaw42.IllTwice", spec := "illTwice", inPlace := ["internal/abi.NoEscape", "internal/bytealg.MakeNoZero", "slices.overlaps[library/api.IllMsg]"], unfollowed := true, recurses := true, named := ["unicode/utf8.first", "unicode/utf8.acceptRanges", "library/ill.messages"], apart := false, laid := [("unicode/utf8.acceptRanges", laid_unicode_utf8_acceptRanges), ("library/ill.messages", laid_library_ill_messages), ("unicode/utf8.first", laid_unicode_utf8_first)] }
def IllTwiceSaid : Prop := illTwiceRow.holds Tryd.pinned (OpenSpec.ofChange illTwiceSpec)

/-- ITS FALSE NEIGHBOUR: 'it returns false'. Refute it at one input. -/
def illTwiceWrong : ChangeSpec := { name := "illTwice", fn := fun _ => fun
  | [d1, d2, d3] => { results := [.lit (.bool false)], args := [d1, d2, d3] }
  | _ => none }
def IllTwiceWrongFalsely : Prop := illTwiceRow.holds Tryd.pinned (OpenSpec.ofChange illTwiceWrong)

/-- 'librarylaw42.IllOrder': WHATEVER THE INPUT: true; the input reads as it did. -/
def illOrderSpec : ChangeSpec := { name := "illOrder", fn := fun _ => fun
  | [d1, d2] => { results := [.lit (.bool true)], args := [d1, d2] }
  | _ => none }
def illOrderRow : OpenClaim := { program := "yticdcapnomageaadoor", sum := "b1f4d675cc1fd18a0c0510da0e6ebe49e73b3ee34342c076e4b733a20d01f629", func := "library/librarylaw42.IllOrder", spec := "illOrder", inPlace := ["internal/abi.NoEscape", "internal/bytealg.MakeNoZero", "slices.overlaps[library/api.IllMsg]"], unfollowed := true, recurses := true, named := ["unicode/utf8.first", "unicode/utf8.acceptRanges", "library/ill.messages"], apart := false, laid := [("unicode/utf8.acceptRanges", laid_unicode_utf8_acceptRanges), ("library/ill.messages", laid_library_ill_messages), ("unicode/utf8.first", laid_unicode_utf8_first)] }
def IllOrderSaid : Prop := illOrderRow.holds Tryd.pinned (OpenSpec.ofChange illOrderSpec)

/-- ITS FALSE NEIGHBOUR: 'it returns false'. Refute it at one input. -/
def illOrderWrong : ChangeSpec := { name := "illOrder", fn := fun _ => fun
  | [d1, d2] => { results := [.lit (.bool false)], args := [d1, d2] }
  | _ => none }
def IllOrderWrongFalsely : Prop := illOrderRow.holds Tryd.pinned (OpenSpec.ofChange illOrderWrong)

/-- 'librarylaw42.IllRight': WHATEVER THE INPUT: true; the input reads as it did. -/
def illRightSpec : ChangeSpec := { name := "illRight", fn := fun _ => fun
  | [d] => { results := [.lit (.bool true)], args := [d] }
  | _ => none }
def illRightRow : OpenClaim := { program := "yticdcapnomageaadoor", sum := "b1f4d675cc1fd18a0c0510da0e6ebe49e73b3ee34342c076e4b733a20d01f629", func := "library/librarylaw42.IllRight", spec := "illRight", inPlace := ["internal/abi.NoEscape", "internal/bytealg.MakeNoZero", "slices.overlaps[library/api.IllMsg]"], unfollowed := true, recurses := true, named := ["unicode/utf8.first", "unicode/utf8.acceptRanges", "library/ill.messages"], apart := false, laid := [("unicode/utf8.acceptRanges", laid_unicode_utf8_acceptRanges), ("library/ill.messages", laid_library_ill_messages), ("unicode/utf8.first", laid_unicode_utf8_first)] }
def IllRightSaid : Prop := illRightRow.holds Tryd.pinned (OpenSpec.ofChange illRightSpec)

/-- ITS FALSE NEIGHBOUR: 'it returns false'. Refute it at one input. -/
def illRightWrong : ChangeSpec := { name := "illRight", fn := fun _ => fun
  | [d] => { results := [.lit (.bool false)], args := [d] }
  | _ => none }
def IllRightWrongFalsely : Prop := illRightRow.holds Tryd.pinned (OpenSpec.ofChange illRightWrong)

/-- 'librarylaw42.IllAsks': WHATEVER THE INPUT: true; the input reads as it did. -/
def illAsksSpec : ChangeSpec := { name := "illAsks", fn := fun _ => fun
  | [d] => { results := [.lit (.bool true)], args := [d] }
  | _ => none }
def illAsksRow : OpenClaim := { program := "yticdcapnomageaadoor", sum := "b1f4d675cc1fd18a0c0510da0e6ebe49e73b3ee34342c076e4b733a20d01f629", func := "library/librarylaw42.IllAsks", spec := "illAsks", inPlace := ["internal/abi.NoEscape", "internal/bytealg.MakeNoZero", "slices.overlaps[library/api.IllMsg]"], unfollowed := true, recurses := true, named := ["unicode/utf8.first", "unicode/utf8.acceptRanges", "library/ill.messages"], apart := false, laid := [("unicode/utf8.acceptRanges", laid_unicode_utf8_acceptRanges), ("library/ill.messages", laid_library_ill_messages), ("unicode/utf8.first", laid_unicode_utf8_first)] }
def IllAsksSaid : Prop := illAsksRow.holds Tryd.pinned (OpenSpec.ofChange illAsksSpec)

/-- ITS FALSE NEIGHBOUR: 'it returns false'. Refute it at one input. -/
def illAsksWrong : ChangeSpec := { name := "illAsks", fn := fun _ => fun
  | [d] => { results := [.lit (.bool false)], args := [d] }
  | _ => none }
def IllAsksWrongFalsely : Prop := illAsksRow.holds Tryd.pinned (OpenSpec.ofChange illAsksWrong)

/-- 'librarylaw42.IllSays': WHATEVER THE INPUT: true; the input reads as it did. -/
def illSaysSpec : ChangeSpec := { name := "illSays", fn := fun _ => fun
  | [d1, d2] => { results := [.lit (.bool true)], args := [d1, d2] }
  | _ => none }
def illSaysRow : OpenClaim := { program := "yticdcapnomageaadoor", sum := "b1f4d675cc1fd18a0c0510da0e6ebe49e73b3ee34342c076e4b733a20d01f629", func := "library/librarylaw42.IllSays", spec := "illSays", inPlace := ["internal/abi.NoEscape", "internal/bytealg.MakeNoZero", "slices.overlaps[library/api.IllMsg]"], unfollowed := true, recurses := true, named := ["unicode/utf8.first", "unicode/utf8.acceptRanges", "library/ill.messages"], apart := false, laid := [("unicode/utf8.acceptRanges", laid_unicode_utf8_acceptRanges), ("library/ill.messages", laid_library_ill_messages), ("unicode/utf8.first", laid_unicode_utf8_first)] }
def IllSaysSaid : Prop := illSaysRow.holds Tryd.pinned (OpenSpec.ofChange illSaysSpec)

/-- ITS FALSE NEIGHBOUR: 'it returns false'. Refute it at one input. -/
def illSaysWrong : ChangeSpec := { name := "illSays", fn := fun _ => fun
  | [d1, d2] => { results := [.lit (.bool false)], args := [d1, d2] }
  | _ => none }
def IllSaysWrongFalsely : Prop := illSaysRow.holds Tryd.pinned (OpenSpec.ofChange illSaysWrong)

/-- 'librarylaw42.IllHears': WHATEVER THE INPUT: true; the input reads as it did. -/
def illHearsSpec : ChangeSpec := { name := "illHears", fn := fun _ => fun
  | [d1, d2, d3] => { results := [.lit (.bool true)], args := [d1, d2, d3] }
  | _ => none }
def illHearsRow : OpenClaim := { program := "yticdcapnomageaadoor", sum := "b1f4d675cc1fd18a0c0510da0e6ebe49e73b3ee34342c076e4b733a20d01f629", func := "library/librarylaw42.IllHears", spec := "illHears", inPlace := ["internal/abi.NoEscape", "internal/bytealg.MakeNoZero", "slices.overlaps[library/api.IllMsg]"], unfollowed := true, recurses := true, named := ["unicode/utf8.first", "unicode/utf8.acceptRanges", "library/ill.messages"], apart := false, laid := [("unicode/utf8.acceptRanges", laid_unicode_utf8_acceptRanges), ("library/ill.messages", laid_library_ill_messages), ("unicode/utf8.first", laid_unicode_utf8_first)] }
def IllHearsSaid : Prop := illHearsRow.holds Tryd.pinned (OpenSpec.ofChange illHearsSpec)

/-- ITS FALSE NEIGHBOUR: 'it returns false'. Refute it at one input. -/
def illHearsWrong : ChangeSpec := { name := "illHears", fn := fun _ => fun
  | [d1, d2, d3] => { results := [.lit (.bool false)], args := [d1, d2, d3] }
  | _ => none }
def IllHearsWrongFalsely : Prop := illHearsRow.holds Tryd.pinned (OpenSpec.ofChange illHearsWrong)

/-- 'librarylaw42.IllOpens': WHATEVER THE INPUT: true; the input reads as it did. -/
def illOpensSpec : ChangeSpec := { name := "illOpens", fn := fun _ => fun
  | [d1, d2] => { results := [.lit (.bool true)], args := [d1, d2] }
  | _ => none }
def illOpensRow : OpenClaim := { program := "yticdcapnomageaadoor", sum := "b1f4d675cc1fd18a0c0510da0e6ebe49e73b3ee34342c076e4b733a20d01f629", func := "library/librarylaw42.IllOpens", spec := "illOpens", inPlace := ["internal/abi.NoEscape", "internal/bytealg.MakeNoZero", "slices.overlaps[library/api.IllMsg]"], unfollowed := true, recurses := true, named := ["unicode/utf8.first", "unicode/utf8.acceptRanges", "library/ill.messages"], apart := false, laid := [("unicode/utf8.acceptRanges", laid_unicode_utf8_acceptRanges), ("library/ill.messages", laid_library_ill_messages), ("unicode/utf8.first", laid_unicode_utf8_first)] }
def IllOpensSaid : Prop := illOpensRow.holds Tryd.pinned (OpenSpec.ofChange illOpensSpec)

/-- ITS FALSE NEIGHBOUR: 'it returns false'. Refute it at one input. -/
def illOpensWrong : ChangeSpec := { name := "illOpens", fn := fun _ => fun
  | [d1, d2] => { results := [.lit (.bool false)], args := [d1, d2] }
  | _ => none }
def IllOpensWrongFalsely : Prop := illOpensRow.holds Tryd.pinned (OpenSpec.ofChange illOpensWrong)

/-- 'librarylaw43.PartnerAsks': WHATEVER THE INPUT: true; the input reads as it did. -/
def partnerAsksSpec : ChangeSpec := { name := "partnerAsks", fn := fun _ => fun
  | [d1, d2, d3, d4] => { results := [.lit (.bool true)], args := [d1, d2, d3, d4] }
  | _ => none }
def partnerAsksRow : OpenClaim := { program := "yticdcapnomageaadoor", sum := "b1f4d675cc1fd18a0c0510da0e6ebe49e73b3ee34342c076e4b733a20d01f629", func := "library/librarylaw43.PartnerAsks", spec := "partnerAsks", inPlace := ["internal/abi.NoEscape", "internal/bytealg.MakeNoZero", "slices.overlaps[library/api.IllMsg]"], unfollowed := true, recurses := true, named := ["unicode/utf8.first", "unicode/utf8.acceptRanges", "library/ill.messages"], apart := false, laid := [("unicode/utf8.acceptRanges", laid_unicode_utf8_acceptRanges), ("library/ill.messages", laid_library_ill_messages), ("unicode/utf8.first", laid_unicode_utf8_first)] }
def PartnerAsksSaid : Prop := partnerAsksRow.holds Tryd.pinned (OpenSpec.ofChange partnerAsksSpec)

/-- ITS FALSE NEIGHBOUR: 'it returns false'. Refute it at one input. -/
def partnerAsksWrong : ChangeSpec := { name := "partnerAsks", fn := fun _ => fun
  | [d1, d2, d3, d4] => { results := [.lit (.bool false)], args := [d1, d2, d3, d4] }
  | _ => none }
def PartnerAsksWrongFalsely : Prop := partnerAsksRow.holds Tryd.pinned (OpenSpec.ofChange partnerAsksWrong)

/-- 'librarylaw43.PartnerHears': WHATEVER THE INPUT: true; the input reads as it did. -/
def partnerHearsSpec : ChangeSpec := { name := "partnerHears", fn := fun _ => fun
  | [d1, d2] => { results := [.lit (.bool true)], args := [d1, d2] }
  | _ => none }
def partnerHearsRow : OpenClaim := { program := "yticdcapnomageaadoor", sum := "b1f4d675cc1fd18a0c0510da0e6ebe49e73b3ee34342c076e4b733a20d01f629", func := "library/librarylaw43.PartnerHears", spec := "partnerHears", inPlace := ["internal/abi.NoEscape", "internal/bytealg.MakeNoZero", "slices.overlaps[library/api.IllMsg]"], unfollowed := true, recurses := true, named := ["unicode/utf8.first", "unicode/utf8.acceptRanges", "library/ill.messages"], apart := false, laid := [("unicode/utf8.acceptRanges", laid_unicode_utf8_acceptRanges), ("library/ill.messages", laid_library_ill_messages), ("unicode/utf8.first", laid_unicode_utf8_first)] }
def PartnerHearsSaid : Prop := partnerHearsRow.holds Tryd.pinned (OpenSpec.ofChange partnerHearsSpec)

/-- ITS FALSE NEIGHBOUR: 'it returns false'. Refute it at one input. -/
def partnerHearsWrong : ChangeSpec := { name := "partnerHears", fn := fun _ => fun
  | [d1, d2] => { results := [.lit (.bool false)], args := [d1, d2] }
  | _ => none }
def PartnerHearsWrongFalsely : Prop := partnerHearsRow.holds Tryd.pinned (OpenSpec.ofChange partnerHearsWrong)

/-- 'librarylaw43.PartnerCompares': WHATEVER THE INPUT: true; the input reads as it did. -/
def partnerComparesSpec : ChangeSpec := { name := "partnerCompares", fn := fun _ => fun
  | [d1, d2] => { results := [.lit (.bool true)], args := [d1, d2] }
  | _ => none }
def partnerComparesRow : OpenClaim := { program := "yticdcapnomageaadoor", sum := "b1f4d675cc1fd18a0c0510da0e6ebe49e73b3ee34342c076e4b733a20d01f629", func := "library/librarylaw43.PartnerCompares", spec := "partnerCompares", inPlace := ["internal/abi.NoEscape", "internal/bytealg.MakeNoZero", "slices.overlaps[library/api.IllMsg]"], unfollowed := true, recurses := true, named := ["unicode/utf8.first", "unicode/utf8.acceptRanges", "library/ill.messages"], apart := false, laid := [("unicode/utf8.acceptRanges", laid_unicode_utf8_acceptRanges), ("library/ill.messages", laid_library_ill_messages), ("unicode/utf8.first", laid_unicode_utf8_first)] }
def PartnerComparesSaid : Prop := partnerComparesRow.holds Tryd.pinned (OpenSpec.ofChange partnerComparesSpec)

/-- ITS FALSE NEIGHBOUR: 'it returns false'. Refute it at one input. -/
def partnerComparesWrong : ChangeSpec := { name := "partnerCompares", fn := fun _ => fun
  | [d1, d2] => { results := [.lit (.bool false)], args := [d1, d2] }
  | _ => none }
def PartnerComparesWrongFalsely : Prop := partnerComparesRow.holds Tryd.pinned (OpenSpec.ofChange partnerComparesWrong)

/-- 'librarylaw43.PartnerSays': WHATEVER THE INPUT: true; the input reads as it did. -/
def partnerSaysSpec : ChangeSpec := { name := "partnerSays", fn := fun _ => fun
  | [d1, d2, d3, d4, d5, d6] => { results := [.lit (.bool true)], args := [d1, d2, d3, d4, d5, d6] }
  | _ => none }
def partnerSaysRow : OpenClaim := { program := "yticdcapnomageaadoor", sum := "b1f4d675cc1fd18a0c0510da0e6ebe49e73b3ee34342c076e4b733a20d01f629", func := "library/librarylaw43.PartnerSays", spec := "partnerSays", inPlace := ["internal/abi.NoEscape", "internal/bytealg.MakeNoZero", "slices.overlaps[library/api.IllMsg]"], unfollowed := true, recurses := true, named := ["unicode/utf8.first", "unicode/utf8.acceptRanges", "library/ill.messages"], apart := false, laid := [("unicode/utf8.acceptRanges", laid_unicode_utf8_acceptRanges), ("library/ill.messages", laid_library_ill_messages), ("unicode/utf8.first", laid_unicode_utf8_first)] }
def PartnerSaysSaid : Prop := partnerSaysRow.holds Tryd.pinned (OpenSpec.ofChange partnerSaysSpec)

/-- ITS FALSE NEIGHBOUR: 'it returns false'. Refute it at one input. -/
def partnerSaysWrong : ChangeSpec := { name := "partnerSays", fn := fun _ => fun
  | [d1, d2, d3, d4, d5, d6] => { results := [.lit (.bool false)], args := [d1, d2, d3, d4, d5, d6] }
  | _ => none }
def PartnerSaysWrongFalsely : Prop := partnerSaysRow.holds Tryd.pinned (OpenSpec.ofChange partnerSaysWrong)

/-- 'librarylaw43.PartnerDelivers': WHATEVER THE INPUT: true; the input reads as it did. -/
def partnerDeliversSpec : ChangeSpec := { name := "partnerDelivers", fn := fun _ => fun
  | [d1, d2, d3] => { results := [.lit (.bool true)], args := [d1, d2, d3] }
  | _ => none }
def partnerDeliversRow : OpenClaim := { program := "yticdcapnomageaadoor", sum := "b1f4d675cc1fd18a0c0510da0e6ebe49e73b3ee34342c076e4b733a20d01f629", func := "library/librarylaw43.PartnerDelivers", spec := "partnerDelivers", inPlace := ["internal/abi.NoEscape", "internal/bytealg.MakeNoZero", "slices.overlaps[library/api.IllMsg]"], unfollowed := true, recurses := true, named := ["unicode/utf8.first", "unicode/utf8.acceptRanges", "library/ill.messages"], apart := false, laid := [("unicode/utf8.acceptRanges", laid_unicode_utf8_acceptRanges), ("library/ill.messages", laid_library_ill_messages), ("unicode/utf8.first", laid_unicode_utf8_first)] }
def PartnerDeliversSaid : Prop := partnerDeliversRow.holds Tryd.pinned (OpenSpec.ofChange partnerDeliversSpec)

/-- ITS FALSE NEIGHBOUR: 'it returns false'. Refute it at one input. -/
def partnerDeliversWrong : ChangeSpec := { name := "partnerDelivers", fn := fun _ => fun
  | [d1, d2, d3] => { results := [.lit (.bool false)], args := [d1, d2, d3] }
  | _ => none }
def PartnerDeliversWrongFalsely : Prop := partnerDeliversRow.holds Tryd.pinned (OpenSpec.ofChange partnerDeliversWrong)

/-- 'librarylaw43.PartnerChecks': WHATEVER THE INPUT: true; the input reads as it did. -/
def partnerChecksSpec : ChangeSpec := { name := "partnerChecks", fn := fun _ => fun
  | [d1, d2] => { results := [.lit (.bool true)], args := [d1, d2] }
  | _ => none }
def partnerChecksRow : OpenClaim := { program := "yticdcapnomageaadoor", sum := "b1f4d675cc1fd18a0c0510da0e6ebe49e73b3ee34342c076e4b733a20d01f629", func := "library/librarylaw43.PartnerChecks", spec := "partnerChecks", inPlace := ["internal/abi.NoEscape", "internal/bytealg.MakeNoZero", "slices.overlaps[library/api.IllMsg]"], unfollowed := true, recurses := true, named := ["unicode/utf8.first", "unicode/utf8.acceptRanges", "library/ill.messages"], apart := false, laid := [("unicode/utf8.acceptRanges", laid_unicode_utf8_acceptRanges), ("library/ill.messages", laid_library_ill_messages), ("unicode/utf8.first", laid_unicode_utf8_first)] }
def PartnerChecksSaid : Prop := partnerChecksRow.holds Tryd.pinned (OpenSpec.ofChange partnerChecksSpec)

/-- ITS FALSE NEIGHBOUR: 'it returns false'. Refute it at one input. -/
def partnerChecksWrong : ChangeSpec := { name := "partnerChecks", fn := fun _ => fun
  | [d1, d2] => { results := [.lit (.bool false)], args := [d1, d2] }
  | _ => none }
def PartnerChecksWrongFalsely : Prop := partnerChecksRow.holds Tryd.pinned (OpenSpec.ofChange partnerChecksWrong)

/-- 'librarylaw43.PartnerKeeps': WHATEVER THE INPUT: true; the input reads as it did. -/
def partnerKeepsSpec : ChangeSpec := { name := "partnerKeeps", fn := fun _ => fun
  | [d1, d2, d3, d4, d5] => { results := [.lit (.bool true)], args := [d1, d2, d3, d4, d5] }
  | _ => none }
def partnerKeepsRow : OpenClaim := { program := "yticdcapnomageaadoor", sum := "b1f4d675cc1fd18a0c0510da0e6ebe49e73b3ee34342c076e4b733a20d01f629", func := "library/librarylaw43.PartnerKeeps", spec := "partnerKeeps", inPlace := ["internal/abi.NoEscape", "internal/bytealg.MakeNoZero", "slices.overlaps[library/api.IllMsg]"], unfollowed := true, recurses := true, named := ["unicode/utf8.first", "unicode/utf8.acceptRanges", "library/ill.messages"], apart := false, laid := [("unicode/utf8.acceptRanges", laid_unicode_utf8_acceptRanges), ("library/ill.messages", laid_library_ill_messages), ("unicode/utf8.first", laid_unicode_utf8_first)] }
def PartnerKeepsSaid : Prop := partnerKeepsRow.holds Tryd.pinned (OpenSpec.ofChange partnerKeepsSpec)

/-- ITS FALSE NEIGHBOUR: 'it returns false'. Refute it at one input. -/
def partnerKeepsWrong : ChangeSpec := { name := "partnerKeeps", fn := fun _ => fun
  | [d1, d2, d3, d4, d5] => { results := [.lit (.bool false)], args := [d1, d2, d3, d4, d5] }
  | _ => none }
def PartnerKeepsWrongFalsely : Prop := partnerKeepsRow.holds Tryd.pinned (OpenSpec.ofChange partnerKeepsWrong)

/-- 'librarylaw43.PartnerSettles': WHATEVER THE INPUT: true; the input reads as it did. -/
def partnerSettlesSpec : ChangeSpec := { name := "partnerSettles", fn := fun _ => fun
  | [d] => { results := [.lit (.bool true)], args := [d] }
  | _ => none }
def partnerSettlesRow : OpenClaim := { program := "yticdcapnomageaadoor", sum := "b1f4d675cc1fd18a0c0510da0e6ebe49e73b3ee34342c076e4b733a20d01f629", func := "library/librarylaw43.PartnerSettles", spec := "partnerSettles", inPlace := ["internal/abi.NoEscape", "internal/bytealg.MakeNoZero", "slices.overlaps[library/api.IllMsg]"], unfollowed := true, recurses := true, named := ["unicode/utf8.first", "unicode/utf8.acceptRanges", "library/ill.messages"], apart := false, laid := [("unicode/utf8.acceptRanges", laid_unicode_utf8_acceptRanges), ("library/ill.messages", laid_library_ill_messages), ("unicode/utf8.first", laid_unicode_utf8_first)] }
def PartnerSettlesSaid : Prop := partnerSettlesRow.holds Tryd.pinned (OpenSpec.ofChange partnerSettlesSpec)

/-- ITS FALSE NEIGHBOUR: 'it returns false'. Refute it at one input. -/
def partnerSettlesWrong : ChangeSpec := { name := "partnerSettles", fn := fun _ => fun
  | [d] => { results := [.lit (.bool false)], args := [d] }
  | _ => none }
def PartnerSettlesWrongFalsely : Prop := partnerSettlesRow.holds Tryd.pinned (OpenSpec.ofChange partnerSettlesWrong)

/- THE SECOND FORM. 'bulk': how many values and letters a reading holds, each counted each time it is reached (what is shared counts as often as it is met; a slice's spare places count too). A statement '..UptoSaid' is the law's where the arguments, and the package variables that the reading takes, are together of bulk at most 1048576: NARROWER than '..Said'. Prove '..Said' where nothing that the law and all that it calls make is longer than what came in: it says more and counts as full. Else prove '..UptoSaid'. A law counts once. -/
mutual
def uptoBulk {H : Type} : DataW H → Nat
  | .lit (.string bytes) => bytes.length + 1
  | .lit _ => 1
  | .nil => 1
  | .ptr d => uptoBulk d + 1
  | .slice elems spare => uptoBulkAll elems + uptoBulkAll spare + 1
  | .agg parts => uptoBulkAll parts + 1
  | .iface _ d => uptoBulk d + 1
  | .map entries => uptoBulkEntries entries + 1
  | .held _ => 1
def uptoBulkAll {H : Type} : List (DataW H) → Nat
  | [] => 0
  | d :: r => uptoBulk d + uptoBulkAll r
def uptoBulkEntries {H : Type} : List (Lit × DataW H) → Nat
  | [] => 0
  | x :: r => uptoBulkEntry x + uptoBulkEntries r
def uptoBulkEntry {H : Type} : Lit × DataW H → Nat
  | (.string bytes, d) => bytes.length + uptoBulk d + 1
  | (_, d) => uptoBulk d + 1
 end
def uptoSmall : (H : Type) → List (DataW H) → Bool := fun _ ds => decide (uptoBulkAll ds ≤ 1048576)
def OpenSpec.upto (s : _root_.Go.ChangeSpec) : _root_.Go.OpenSpec := { _root_.Go.OpenSpec.ofChange s with cond := some uptoSmall }

/-- 'librarylaw42.IllAllowed', WHERE WHAT IT READS IS OF BULK AT MOST 1048576: true; the input reads as it did. -/
def illAllowedUptoRow : OpenClaim := { program := "yticdcapnomageaadoor", sum := "b1f4d675cc1fd18a0c0510da0e6ebe49e73b3ee34342c076e4b733a20d01f629", func := "library/librarylaw42.IllAllowed", spec := "illAllowed", inPlace := ["internal/abi.NoEscape", "internal/bytealg.MakeNoZero", "slices.overlaps[library/api.IllMsg]"], unfollowed := true, recurses := true, named := ["unicode/utf8.first", "unicode/utf8.acceptRanges", "library/ill.messages"], apart := false, laid := [("unicode/utf8.acceptRanges", laid_unicode_utf8_acceptRanges), ("library/ill.messages", laid_library_ill_messages), ("unicode/utf8.first", laid_unicode_utf8_first)], narrowed := true }
def IllAllowedUptoSaid : Prop := illAllowedUptoRow.holds Tryd.pinned (OpenSpec.upto illAllowedSpec)

/-- 'librarylaw42.IllTwice', WHERE WHAT IT READS IS OF BULK AT MOST 1048576: true; the input reads as it did. -/
def illTwiceUptoRow : OpenClaim := { program := "yticdcapnomageaadoor", sum := "b1f4d675cc1fd18a0c0510da0e6ebe49e73b3ee34342c076e4b733a20d01f629", func := "library/librarylaw42.IllTwice", spec := "illTwice", inPlace := ["internal/abi.NoEscape", "internal/bytealg.MakeNoZero", "slices.overlaps[library/api.IllMsg]"], unfollowed := true, recurses := true, named := ["unicode/utf8.first", "unicode/utf8.acceptRanges", "library/ill.messages"], apart := false, laid := [("unicode/utf8.acceptRanges", laid_unicode_utf8_acceptRanges), ("library/ill.messages", laid_library_ill_messages), ("unicode/utf8.first", laid_unicode_utf8_first)], narrowed := true }
def IllTwiceUptoSaid : Prop := illTwiceUptoRow.holds Tryd.pinned (OpenSpec.upto illTwiceSpec)

/-- 'librarylaw42.IllOrder', WHERE WHAT IT READS IS OF BULK AT MOST 1048576: true; the input reads as it did. -/
def illOrderUptoRow : OpenClaim := { program := "yticdcapnomageaadoor", sum := "b1f4d675cc1fd18a0c0510da0e6ebe49e73b3ee34342c076e4b733a20d01f629", func := "library/librarylaw42.IllOrder", spec := "illOrder", inPlace := ["internal/abi.NoEscape", "internal/bytealg.MakeNoZero", "slices.overlaps[library/api.IllMsg]"], unfollowed := true, recurses := true, named := ["unicode/utf8.first", "unicode/utf8.acceptRanges", "library/ill.messages"], apart := false, laid := [("unicode/utf8.acceptRanges", laid_unicode_utf8_acceptRanges), ("library/ill.messages", laid_library_ill_messages), ("unicode/utf8.first", laid_unicode_utf8_first)], narrowed := true }
def IllOrderUptoSaid : Prop := illOrderUptoRow.holds Tryd.pinned (OpenSpec.upto illOrderSpec)

/-- 'librarylaw42.IllRight', WHERE WHAT IT READS IS OF BULK AT MOST 1048576: true; the input reads as it did. -/
def illRightUptoRow : OpenClaim := { program := "yticdcapnomageaadoor", sum := "b1f4d675cc1fd18a0c0510da0e6ebe49e73b3ee34342c076e4b733a20d01f629", func := "library/librarylaw42.IllRight", spec := "illRight", inPlace := ["internal/abi.NoEscape", "internal/bytealg.MakeNoZero", "slices.overlaps[library/api.IllMsg]"], unfollowed := true, recurses := true, named := ["unicode/utf8.first", "unicode/utf8.acceptRanges", "library/ill.messages"], apart := false, laid := [("unicode/utf8.acceptRanges", laid_unicode_utf8_acceptRanges), ("library/ill.messages", laid_library_ill_messages), ("unicode/utf8.first", laid_unicode_utf8_first)], narrowed := true }
def IllRightUptoSaid : Prop := illRightUptoRow.holds Tryd.pinned (OpenSpec.upto illRightSpec)

/-- 'librarylaw42.IllAsks', WHERE WHAT IT READS IS OF BULK AT MOST 1048576: true; the input reads as it did. -/
def illAsksUptoRow : OpenClaim := { program := "yticdcapnomageaadoor", sum := "b1f4d675cc1fd18a0c0510da0e6ebe49e73b3ee34342c076e4b733a20d01f629", func := "library/librarylaw42.IllAsks", spec := "illAsks", inPlace := ["internal/abi.NoEscape", "internal/bytealg.MakeNoZero", "slices.overlaps[library/api.IllMsg]"], unfollowed := true, recurses := true, named := ["unicode/utf8.first", "unicode/utf8.acceptRanges", "library/ill.messages"], apart := false, laid := [("unicode/utf8.acceptRanges", laid_unicode_utf8_acceptRanges), ("library/ill.messages", laid_library_ill_messages), ("unicode/utf8.first", laid_unicode_utf8_first)], narrowed := true }
def IllAsksUptoSaid : Prop := illAsksUptoRow.holds Tryd.pinned (OpenSpec.upto illAsksSpec)

/-- 'librarylaw42.IllSays', WHERE WHAT IT READS IS OF BULK AT MOST 1048576: true; the input reads as it did. -/
def illSaysUptoRow : OpenClaim := { program := "yticdcapnomageaadoor", sum := "b1f4d675cc1fd18a0c0510da0e6ebe49e73b3ee34342c076e4b733a20d01f629", func := "library/librarylaw42.IllSays", spec := "illSays", inPlace := ["internal/abi.NoEscape", "internal/bytealg.MakeNoZero", "slices.overlaps[library/api.IllMsg]"], unfollowed := true, recurses := true, named := ["unicode/utf8.first", "unicode/utf8.acceptRanges", "library/ill.messages"], apart := false, laid := [("unicode/utf8.acceptRanges", laid_unicode_utf8_acceptRanges), ("library/ill.messages", laid_library_ill_messages), ("unicode/utf8.first", laid_unicode_utf8_first)], narrowed := true }
def IllSaysUptoSaid : Prop := illSaysUptoRow.holds Tryd.pinned (OpenSpec.upto illSaysSpec)

/-- 'librarylaw42.IllHears', WHERE WHAT IT READS IS OF BULK AT MOST 1048576: true; the input reads as it did. -/
def illHearsUptoRow : OpenClaim := { program := "yticdcapnomageaadoor", sum := "b1f4d675cc1fd18a0c0510da0e6ebe49e73b3ee34342c076e4b733a20d01f629", func := "library/librarylaw42.IllHears", spec := "illHears", inPlace := ["internal/abi.NoEscape", "internal/bytealg.MakeNoZero", "slices.overlaps[library/api.IllMsg]"], unfollowed := true, recurses := true, named := ["unicode/utf8.first", "unicode/utf8.acceptRanges", "library/ill.messages"], apart := false, laid := [("unicode/utf8.acceptRanges", laid_unicode_utf8_acceptRanges), ("library/ill.messages", laid_library_ill_messages), ("unicode/utf8.first", laid_unicode_utf8_first)], narrowed := true }
def IllHearsUptoSaid : Prop := illHearsUptoRow.holds Tryd.pinned (OpenSpec.upto illHearsSpec)

/-- 'librarylaw42.IllOpens', WHERE WHAT IT READS IS OF BULK AT MOST 1048576: true; the input reads as it did. -/
def illOpensUptoRow : OpenClaim := { program := "yticdcapnomageaadoor", sum := "b1f4d675cc1fd18a0c0510da0e6ebe49e73b3ee34342c076e4b733a20d01f629", func := "library/librarylaw42.IllOpens", spec := "illOpens", inPlace := ["internal/abi.NoEscape", "internal/bytealg.MakeNoZero", "slices.overlaps[library/api.IllMsg]"], unfollowed := true, recurses := true, named := ["unicode/utf8.first", "unicode/utf8.acceptRanges", "library/ill.messages"], apart := false, laid := [("unicode/utf8.acceptRanges", laid_unicode_utf8_acceptRanges), ("library/ill.messages", laid_library_ill_messages), ("unicode/utf8.first", laid_unicode_utf8_first)], narrowed := true }
def IllOpensUptoSaid : Prop := illOpensUptoRow.holds Tryd.pinned (OpenSpec.upto illOpensSpec)

/-- 'librarylaw43.PartnerAsks', WHERE WHAT IT READS IS OF BULK AT MOST 1048576: true; the input reads as it did. -/
def partnerAsksUptoRow : OpenClaim := { program := "yticdcapnomageaadoor", sum := "b1f4d675cc1fd18a0c0510da0e6ebe49e73b3ee34342c076e4b733a20d01f629", func := "library/librarylaw43.PartnerAsks", spec := "partnerAsks", inPlace := ["internal/abi.NoEscape", "internal/bytealg.MakeNoZero", "slices.overlaps[library/api.IllMsg]"], unfollowed := true, recurses := true, named := ["unicode/utf8.first", "unicode/utf8.acceptRanges", "library/ill.messages"], apart := false, laid := [("unicode/utf8.acceptRanges", laid_unicode_utf8_acceptRanges), ("library/ill.messages", laid_library_ill_messages), ("unicode/utf8.first", laid_unicode_utf8_first)], narrowed := true }
def PartnerAsksUptoSaid : Prop := partnerAsksUptoRow.holds Tryd.pinned (OpenSpec.upto partnerAsksSpec)

/-- 'librarylaw43.PartnerHears', WHERE WHAT IT READS IS OF BULK AT MOST 1048576: true; the input reads as it did. -/
def partnerHearsUptoRow : OpenClaim := { program := "yticdcapnomageaadoor", sum := "b1f4d675cc1fd18a0c0510da0e6ebe49e73b3ee34342c076e4b733a20d01f629", func := "library/librarylaw43.PartnerHears", spec := "partnerHears", inPlace := ["internal/abi.NoEscape", "internal/bytealg.MakeNoZero", "slices.overlaps[library/api.IllMsg]"], unfollowed := true, recurses := true, named := ["unicode/utf8.first", "unicode/utf8.acceptRanges", "library/ill.messages"], apart := false, laid := [("unicode/utf8.acceptRanges", laid_unicode_utf8_acceptRanges), ("library/ill.messages", laid_library_ill_messages), ("unicode/utf8.first", laid_unicode_utf8_first)], narrowed := true }
def PartnerHearsUptoSaid : Prop := partnerHearsUptoRow.holds Tryd.pinned (OpenSpec.upto partnerHearsSpec)

/-- 'librarylaw43.PartnerCompares', WHERE WHAT IT READS IS OF BULK AT MOST 1048576: true; the input reads as it did. -/
def partnerComparesUptoRow : OpenClaim := { program := "yticdcapnomageaadoor", sum := "b1f4d675cc1fd18a0c0510da0e6ebe49e73b3ee34342c076e4b733a20d01f629", func := "library/librarylaw43.PartnerCompares", spec := "partnerCompares", inPlace := ["internal/abi.NoEscape", "internal/bytealg.MakeNoZero", "slices.overlaps[library/api.IllMsg]"], unfollowed := true, recurses := true, named := ["unicode/utf8.first", "unicode/utf8.acceptRanges", "library/ill.messages"], apart := false, laid := [("unicode/utf8.acceptRanges", laid_unicode_utf8_acceptRanges), ("library/ill.messages", laid_library_ill_messages), ("unicode/utf8.first", laid_unicode_utf8_first)], narrowed := true }
def PartnerComparesUptoSaid : Prop := partnerComparesUptoRow.holds Tryd.pinned (OpenSpec.upto partnerComparesSpec)

/-- 'librarylaw43.PartnerSays', WHERE WHAT IT READS IS OF BULK AT MOST 1048576: true; the input reads as it did. -/
def partnerSaysUptoRow : OpenClaim := { program := "yticdcapnomageaadoor", sum := "b1f4d675cc1fd18a0c0510da0e6ebe49e73b3ee34342c076e4b733a20d01f629", func := "library/librarylaw43.PartnerSays", spec := "partnerSays", inPlace := ["internal/abi.NoEscape", "internal/bytealg.MakeNoZero", "slices.overlaps[library/api.IllMsg]"], unfollowed := true, recurses := true, named := ["unicode/utf8.first", "unicode/utf8.acceptRanges", "library/ill.messages"], apart := false, laid := [("unicode/utf8.acceptRanges", laid_unicode_utf8_acceptRanges), ("library/ill.messages", laid_library_ill_messages), ("unicode/utf8.first", laid_unicode_utf8_first)], narrowed := true }
def PartnerSaysUptoSaid : Prop := partnerSaysUptoRow.holds Tryd.pinned (OpenSpec.upto partnerSaysSpec)

/-- 'librarylaw43.PartnerDelivers', WHERE WHAT IT READS IS OF BULK AT MOST 1048576: true; the input reads as it did. -/
def partnerDeliversUptoRow : OpenClaim := { program := "yticdcapnomageaadoor", sum := "b1f4d675cc1fd18a0c0510da0e6ebe49e73b3ee34342c076e4b733a20d01f629", func := "library/librarylaw43.PartnerDelivers", spec := "partnerDelivers", inPlace := ["internal/abi.NoEscape", "internal/bytealg.MakeNoZero", "slices.overlaps[library/api.IllMsg]"], unfollowed := true, recurses := true, named := ["unicode/utf8.first", "unicode/utf8.acceptRanges", "library/ill.messages"], apart := false, laid := [("unicode/utf8.acceptRanges", laid_unicode_utf8_acceptRanges), ("library/ill.messages", laid_library_ill_messages), ("unicode/utf8.first", laid_unicode_utf8_first)], narrowed := true }
def PartnerDeliversUptoSaid : Prop := partnerDeliversUptoRow.holds Tryd.pinned (OpenSpec.upto partnerDeliversSpec)

/-- 'librarylaw43.PartnerChecks', WHERE WHAT IT READS IS OF BULK AT MOST 1048576: true; the input reads as it did. -/
def partnerChecksUptoRow : OpenClaim := { program := "yticdcapnomageaadoor", sum := "b1f4d675cc1fd18a0c0510da0e6ebe49e73b3ee34342c076e4b733a20d01f629", func := "library/librarylaw43.PartnerChecks", spec := "partnerChecks", inPlace := ["internal/abi.NoEscape", "internal/bytealg.MakeNoZero", "slices.overlaps[library/api.IllMsg]"], unfollowed := true, recurses := true, named := ["unicode/utf8.first", "unicode/utf8.acceptRanges", "library/ill.messages"], apart := false, laid := [("unicode/utf8.acceptRanges", laid_unicode_utf8_acceptRanges), ("library/ill.messages", laid_library_ill_messages), ("unicode/utf8.first", laid_unicode_utf8_first)], narrowed := true }
def PartnerChecksUptoSaid : Prop := partnerChecksUptoRow.holds Tryd.pinned (OpenSpec.upto partnerChecksSpec)

/-- 'librarylaw43.PartnerKeeps', WHERE WHAT IT READS IS OF BULK AT MOST 1048576: true; the input reads as it did. -/
def partnerKeepsUptoRow : OpenClaim := { program := "yticdcapnomageaadoor", sum := "b1f4d675cc1fd18a0c0510da0e6ebe49e73b3ee34342c076e4b733a20d01f629", func := "library/librarylaw43.PartnerKeeps", spec := "partnerKeeps", inPlace := ["internal/abi.NoEscape", "internal/bytealg.MakeNoZero", "slices.overlaps[library/api.IllMsg]"], unfollowed := true, recurses := true, named := ["unicode/utf8.first", "unicode/utf8.acceptRanges", "library/ill.messages"], apart := false, laid := [("unicode/utf8.acceptRanges", laid_unicode_utf8_acceptRanges), ("library/ill.messages", laid_library_ill_messages), ("unicode/utf8.first", laid_unicode_utf8_first)], narrowed := true }
def PartnerKeepsUptoSaid : Prop := partnerKeepsUptoRow.holds Tryd.pinned (OpenSpec.upto partnerKeepsSpec)

/-- 'librarylaw43.PartnerSettles', WHERE WHAT IT READS IS OF BULK AT MOST 1048576: true; the input reads as it did. -/
def partnerSettlesUptoRow : OpenClaim := { program := "yticdcapnomageaadoor", sum := "b1f4d675cc1fd18a0c0510da0e6ebe49e73b3ee34342c076e4b733a20d01f629", func := "library/librarylaw43.PartnerSettles", spec := "partnerSettles", inPlace := ["internal/abi.NoEscape", "internal/bytealg.MakeNoZero", "slices.overlaps[library/api.IllMsg]"], unfollowed := true, recurses := true, named := ["unicode/utf8.first", "unicode/utf8.acceptRanges", "library/ill.messages"], apart := false, laid := [("unicode/utf8.acceptRanges", laid_unicode_utf8_acceptRanges), ("library/ill.messages", laid_library_ill_messages), ("unicode/utf8.first", laid_unicode_utf8_first)], narrowed := true }
def PartnerSettlesUptoSaid : Prop := partnerSettlesUptoRow.holds Tryd.pinned (OpenSpec.upto partnerSettlesSpec)

end Rows
end Go.Proofs.YticdcapnomageaaDoor
