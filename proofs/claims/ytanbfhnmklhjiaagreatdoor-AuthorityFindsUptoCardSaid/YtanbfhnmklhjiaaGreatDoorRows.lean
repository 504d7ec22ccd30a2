/-
  NARROWER THAN 'FOR EVERY INPUT', by the rows' own cells (each row's printed sentence says how): BrowseBuilds: laid · BrowseFinds: laid · BrowseOrders: laid · BrowseRefers: laid · AuthorityFinds: laid · AuthorityTurns: laid · AuthorityKeeps: laid · FacetValues: laid · FacetCounts: laid · FacetTops: laid · FacetAgrees: laid · FacetTwice: laid.
  DERIVED. THE GIVEN ROWS OF THIS SEAT. 12 by the template 'for every input the law returns true; each argument reads behind the call as it read before'; 0 by the template 'total and deterministic' (their statements: YtanbfhnmklhjiaaGreatDoorTotals.lean).
  GIVEN WITH THE SEED: the statements are not yours to turn. If you find one false, say at which input.
  Laid BY PROGRAM, IN A SANDBOX (cutbox-rows.mjs): the forced cells as the released guide's own fill.sh prints them over the translation f682428be0cf3734… (all of the seat's roots in one cut). By AI agents, Wed Nov 11 2026. No macro, syntax, notation, axiom, sorry.
-/
import Derived.Test.YtanbfhnmklhjiaaGreatDoorChecked
import GoSem.PinnedTables
import GoSem.Claim
import GoSem.ClaimJoined
import GoSem.ClaimMapViews
import Derived.JoinedTies
import Derived.KernelRfl
namespace Go.Proofs.YtanbfhnmklhjiaaGreatDoor
/- THE CELL 'sum', in the pinned program and in every row, IS THE sha256 OF THE DUMP (.gsa) THAT YtanbfhnmklhjiaaGreatDoorProg.lean LOADS. Nothing in Lean hashes anything: it is a label: what it is worth is what the hold of that sum in a sandbox is worth. -/
noncomputable def Tryz.pinned : Pinned := { name := "ytanbfhnmklhjiaagreatdoor", sum := "f682428be0cf3734fdbf20d7a25d872121dddfcd3a1c452119c2df81487b3620", checked := Tryz.checked }
namespace Rows
def none {H : Type} : Left H := { results := [], args := [] }

/- WHAT THE LISTED PACKAGE-LEVEL VARIABLES READ AS WHEN THE CALL BEGINS. Each datum BY PROGRAM (the guide's laid-datum.mjs) off the statement by which the dump's own 'gosem.cut.vars' lays the variable. In a bare row this is a premise. The card (YtanbfhnmklhjiaaGreatDoorCards.lean) ties it to the program's text. -/
def laid_math_bits_deBruijn32tab {H : Type} : DataW H := .agg [.lit (.int .u8 0), .lit (.int .u8 1), .lit (.int .u8 28), .lit (.int .u8 2), .lit (.int .u8 29), .lit (.int .u8 14), .lit (.int .u8 24), .lit (.int .u8 3), .lit (.int .u8 30), .lit (.int .u8 22), .lit (.int .u8 20), .lit (.int .u8 15), .lit (.int .u8 25), .lit (.int .u8 17), .lit (.int .u8 4), .lit (.int .u8 8), .lit (.int .u8 31), .lit (.int .u8 27), .lit (.int .u8 13), .lit (.int .u8 23), .lit (.int .u8 21), .lit (.int .u8 19), .lit (.int .u8 16), .lit (.int .u8 7), .lit (.int .u8 26), .lit (.int .u8 12), .lit (.int .u8 18), .lit (.int .u8 6), .lit (.int .u8 11), .lit (.int .u8 5), .lit (.int .u8 10), .lit (.int .u8 9)]
def laid_math_bits_deBruijn64tab {H : Type} : DataW H := .agg [.lit (.int .u8 0), .lit (.int .u8 1), .lit (.int .u8 56), .lit (.int .u8 2), .lit (.int .u8 57), .lit (.int .u8 49), .lit (.int .u8 28), .lit (.int .u8 3), .lit (.int .u8 61), .lit (.int .u8 58), .lit (.int .u8 42), .lit (.int .u8 50), .lit (.int .u8 38), .lit (.int .u8 29), .lit (.int .u8 17), .lit (.int .u8 4), .lit (.int .u8 62), .lit (.int .u8 47), .lit (.int .u8 59), .lit (.int .u8 36), .lit (.int .u8 45), .lit (.int .u8 43), .lit (.int .u8 51), .lit (.int .u8 22), .lit (.int .u8 53), .lit (.int .u8 39), .lit (.int .u8 33), .lit (.int .u8 30), .lit (.int .u8 24), .lit (.int .u8 18), .lit (.int .u8 12), .lit (.int .u8 5), .lit (.int .u8 63), .lit (.int .u8 55), .lit (.int .u8 48), .lit (.int .u8 27), .lit (.int .u8 60), .lit (.int .u8 41), .lit (.int .u8 37), .lit (.int .u8 16), .lit (.int .u8 46), .lit (.int .u8 35), .lit (.int .u8 44), .lit (.int .u8 21), .lit (.int .u8 52), .lit (.int .u8 32), .lit (.int .u8 23), .lit (.int .u8 11), .lit (.int .u8 54), .lit (.int .u8 26), .lit (.int .u8 40), .lit (.int .u8 15), .lit (.int .u8 34), .lit (.int .u8 20), .lit (.int .u8 31), .lit (.int .u8 10), .lit (.int .u8 25), .lit (.int .u8 14), .lit (.int .u8 19), .lit (.int .u8 9), .lit (.int .u8 13), .lit (.int .u8 8), .lit (.int .u8 7), .lit (.int .u8 6)]
def laid_internal_strconv_uint64pow10 {H : Type} : DataW H := .agg [.lit (.int .u64 1), .lit (.int .u64 10), .lit (.int .u64 100), .lit (.int .u64 1000), .lit (.int .u64 10000), .lit (.int .u64 100000), .lit (.int .u64 1000000), .lit (.int .u64 10000000), .lit (.int .u64 100000000), .lit (.int .u64 1000000000), .lit (.int .u64 10000000000), .lit (.int .u64 100000000000), .lit (.int .u64 1000000000000), .lit (.int .u64 10000000000000), .lit (.int .u64 100000000000000), .lit (.int .u64 1000000000000000), .lit (.int .u64 10000000000000000), .lit (.int .u64 100000000000000000), .lit (.int .u64 1000000000000000000), .lit (.int .u64 10000000000000000000)]
def laid_unicode_utf8_acceptRanges {H : Type} : DataW H := .agg [.agg [.lit (.int .u8 128), .lit (.int .u8 191)], .agg [.lit (.int .u8 160), .lit (.int .u8 191)], .agg [.lit (.int .u8 128), .lit (.int .u8 159)], .agg [.lit (.int .u8 144), .lit (.int .u8 191)], .agg [.lit (.int .u8 128), .lit (.int .u8 143)], .agg [.lit (.int .u8 0), .lit (.int .u8 0)], .agg [.lit (.int .u8 0), .lit (.int .u8 0)], .agg [.lit (.int .u8 0), .lit (.int .u8 0)], .agg [.lit (.int .u8 0), .lit (.int .u8 0)], .agg [.lit (.int .u8 0), .lit (.int .u8 0)], .agg [.lit (.int .u8 0), .lit (.int .u8 0)], .agg [.lit (.int .u8 0), .lit (.int .u8 0)], .agg [.lit (.int .u8 0), .lit (.int .u8 0)], .agg [.lit (.int .u8 0), .lit (.int .u8 0)], .agg [.lit (.int .u8 0), .lit (.int .u8 0)], .agg [.lit (.int .u8 0), .lit (.int .u8 0)]]
def laid_library_rules_standard {H : Type} : DataW H := .agg [.agg [.lit (.string [48, 50, 48]), .lit (.bool true), .lit (.bool false), .lit (.string [97, 122]), .lit (.string []), .lit (.string []), .lit (.int .i64 0)], .agg [.lit (.string [48, 50, 50]), .lit (.bool true), .lit (.bool false), .lit (.string [97]), .lit (.string []), .lit (.string []), .lit (.int .i64 0)], .agg [.lit (.string [48, 52, 49]), .lit (.bool true), .lit (.bool false), .lit (.string [97]), .lit (.string []), .lit (.string []), .lit (.int .i64 0)], .agg [.lit (.string [49, 48, 48]), .lit (.bool false), .lit (.bool false), .lit (.string [52, 97, 100]), .lit (.string [97]), .lit (.string [97]), .lit (.int .i64 1)], .agg [.lit (.string [49, 49, 48]), .lit (.bool false), .lit (.bool false), .lit (.string [97, 98]), .lit (.string [97]), .lit (.string [97]), .lit (.int .i64 2)], .agg [.lit (.string [50, 52, 53]), .lit (.bool false), .lit (.bool true), .lit (.string [97, 98, 99, 110, 112]), .lit (.string [97, 99]), .lit (.string [97]), .lit (.int .i64 0)], .agg [.lit (.string [50, 52, 54]), .lit (.bool true), .lit (.bool false), .lit (.string [97, 98]), .lit (.string [97]), .lit (.string [97]), .lit (.int .i64 0)], .agg [.lit (.string [50, 53, 48]), .lit (.bool false), .lit (.bool false), .lit (.string [97, 98]), .lit (.string []), .lit (.string []), .lit (.int .i64 0)], .agg [.lit (.string [50, 54, 48]), .lit (.bool true), .lit (.bool false), .lit (.string [97, 98, 99]), .lit (.string []), .lit (.string []), .lit (.int .i64 0)], .agg [.lit (.string [50, 54, 52]), .lit (.bool true), .lit (.bool false), .lit (.string [97, 98, 99]), .lit (.string []), .lit (.string []), .lit (.int .i64 0)], .agg [.lit (.string [51, 48, 48]), .lit (.bool true), .lit (.bool false), .lit (.string [97, 98, 99]), .lit (.string []), .lit (.string []), .lit (.int .i64 0)], .agg [.lit (.string [52, 52, 48]), .lit (.bool true), .lit (.bool false), .lit (.string [97, 118]), .lit (.string [97]), .lit (.string [97]), .lit (.int .i64 4)], .agg [.lit (.string [52, 57, 48]), .lit (.bool true), .lit (.bool false), .lit (.string [97, 118]), .lit (.string [97]), .lit (.string [97]), .lit (.int .i64 0)], .agg [.lit (.string [53, 48, 48]), .lit (.bool true), .lit (.bool false), .lit (.string [97]), .lit (.string [97]), .lit (.string [97]), .lit (.int .i64 0)], .agg [.lit (.string [53, 50, 48]), .lit (.bool true), .lit (.bool false), .lit (.string [97]), .lit (.string []), .lit (.string []), .lit (.int .i64 0)], .agg [.lit (.string [54, 48, 48]), .lit (.bool true), .lit (.bool false), .lit (.string [97, 100, 120, 121, 122]), .lit (.string [97]), .lit (.string [97]), .lit (.int .i64 1)], .agg [.lit (.string [54, 49, 48]), .lit (.bool true), .lit (.bool false), .lit (.string [97, 98, 120, 121, 122]), .lit (.string [97]), .lit (.string [97]), .lit (.int .i64 2)], .agg [.lit (.string [54, 53, 48]), .lit (.bool true), .lit (.bool false), .lit (.string [97, 120, 121, 122]), .lit (.string [97]), .lit (.string [97]), .lit (.int .i64 3)], .agg [.lit (.string [54, 53, 49]), .lit (.bool true), .lit (.bool false), .lit (.string [97, 120, 121, 122]), .lit (.string [97]), .lit (.string [97]), .lit (.int .i64 3)], .agg [.lit (.string [55, 48, 48]), .lit (.bool true), .lit (.bool false), .lit (.string [52, 97, 100]), .lit (.string [97]), .lit (.string [97]), .lit (.int .i64 1)], .agg [.lit (.string [55, 49, 48]), .lit (.bool true), .lit (.bool false), .lit (.string [97, 98]), .lit (.string [97]), .lit (.string [97]), .lit (.int .i64 2)], .agg [.lit (.string [55, 55, 54]), .lit (.bool true), .lit (.bool false), .lit (.string [116, 119]), .lit (.string []), .lit (.string []), .lit (.int .i64 0)], .agg [.lit (.string [55, 56, 55]), .lit (.bool true), .lit (.bool false), .lit (.string [116, 119]), .lit (.string []), .lit (.string []), .lit (.int .i64 0)], .agg [.lit (.string [56, 51, 48]), .lit (.bool true), .lit (.bool false), .lit (.string [97, 118]), .lit (.string [97]), .lit (.string [97]), .lit (.int .i64 4)], .agg [.lit (.string [56, 53, 54]), .lit (.bool true), .lit (.bool false), .lit (.string [117, 122]), .lit (.string []), .lit (.string []), .lit (.int .i64 0)]]
/-- One of Go's own tables, pinned by name: the form's constant. -/
def laid_unicode_utf8_first : DataW Unit := Go.Pinned.utf8First

/-- 'librarylaw24.BrowseBuilds': WHATEVER THE INPUT: true; the input reads as it did. -/
def browseBuildsSpec : ChangeSpec := { name := "browseBuilds", fn := fun _ => fun
  | [d1, d2, d3] => { results := [.lit (.bool true)], args := [d1, d2, d3] }
  | _ => none }
def browseBuildsRow : OpenClaim := { program := "ytanbfhnmklhjiaagreatdoor", sum := "f682428be0cf3734fdbf20d7a25d872121dddfcd3a1c452119c2df81487b3620", func := "library/librarylaw24.BrowseBuilds", spec := "browseBuilds", inPlace := ["internal/bytealg.IndexByteString", "internal/abi.NoEscape", "internal/bytealg.MakeNoZero", "internal/bytealg.CountString", "internal/bytealg.IndexString", "internal/bytealg.abigen_runtime_cmpstring"], unfollowed := true, recurses := true, named := ["library/rules.standard", "unicode/utf8.first", "unicode/utf8.acceptRanges", "internal/bytealg.MaxLen", "internal/strconv.uint64pow10", "math/bits.deBruijn32tab", "math/bits.deBruijn64tab"], plainKeys := false, apart := false, laid := [("math/bits.deBruijn32tab", laid_math_bits_deBruijn32tab), ("math/bits.deBruijn64tab", laid_math_bits_deBruijn64tab), ("internal/strconv.uint64pow10", laid_internal_strconv_uint64pow10), ("unicode/utf8.acceptRanges", laid_unicode_utf8_acceptRanges), ("library/rules.standard", laid_library_rules_standard), ("unicode/utf8.first", laid_unicode_utf8_first)] }
def BrowseBuildsSaid : Prop := browseBuildsRow.holds Tryz.pinned (OpenSpec.ofChange browseBuildsSpec)

/-- ITS FALSE NEIGHBOUR: 'it returns false'. Refute it at one input. -/
def browseBuildsWrong : ChangeSpec := { name := "browseBuilds", fn := fun _ => fun
  | [d1, d2, d3] => { results := [.lit (.bool false)], args := [d1, d2, d3] }
  | _ => none }
def BrowseBuildsWrongFalsely : Prop := browseBuildsRow.holds Tryz.pinned (OpenSpec.ofChange browseBuildsWrong)

/-- 'librarylaw24.BrowseFinds': WHATEVER THE INPUT: true; the input reads as it did. -/
def browseFindsSpec : ChangeSpec := { name := "browseFinds", fn := fun _ => fun
  | [d1, d2, d3] => { results := [.lit (.bool true)], args := [d1, d2, d3] }
  | _ => none }
def browseFindsRow : OpenClaim := { program := "ytanbfhnmklhjiaagreatdoor", sum := "f682428be0cf3734fdbf20d7a25d872121dddfcd3a1c452119c2df81487b3620", func := "library/librarylaw24.BrowseFinds", spec := "browseFinds", inPlace := ["internal/abi.NoEscape", "internal/bytealg.CountString", "internal/bytealg.IndexByteString", "internal/bytealg.IndexString", "internal/bytealg.abigen_runtime_cmpstring", "internal/bytealg.MakeNoZero"], unfollowed := true, recurses := true, named := ["unicode/utf8.first", "unicode/utf8.acceptRanges", "internal/bytealg.MaxLen", "library/rules.standard", "internal/strconv.uint64pow10", "math/bits.deBruijn32tab", "math/bits.deBruijn64tab"], plainKeys := false, apart := false, laid := [("math/bits.deBruijn32tab", laid_math_bits_deBruijn32tab), ("math/bits.deBruijn64tab", laid_math_bits_deBruijn64tab), ("internal/strconv.uint64pow10", laid_internal_strconv_uint64pow10), ("unicode/utf8.acceptRanges", laid_unicode_utf8_acceptRanges), ("library/rules.standard", laid_library_rules_standard), ("unicode/utf8.first", laid_unicode_utf8_first)] }
def BrowseFindsSaid : Prop := browseFindsRow.holds Tryz.pinned (OpenSpec.ofChange browseFindsSpec)

/-- ITS FALSE NEIGHBOUR: 'it returns false'. Refute it at one input. -/
def browseFindsWrong : ChangeSpec := { name := "browseFinds", fn := fun _ => fun
  | [d1, d2, d3] => { results := [.lit (.bool false)], args := [d1, d2, d3] }
  | _ => none }
def BrowseFindsWrongFalsely : Prop := browseFindsRow.holds Tryz.pinned (OpenSpec.ofChange browseFindsWrong)

/-- 'librarylaw24.BrowseOrders': WHATEVER THE INPUT: true; the input reads as it did. -/
def browseOrdersSpec : ChangeSpec := { name := "browseOrders", fn := fun _ => fun
  | [d1, d2, d3] => { results := [.lit (.bool true)], args := [d1, d2, d3] }
  | _ => none }
def browseOrdersRow : OpenClaim := { program := "ytanbfhnmklhjiaagreatdoor", sum := "f682428be0cf3734fdbf20d7a25d872121dddfcd3a1c452119c2df81487b3620", func := "library/librarylaw24.BrowseOrders", spec := "browseOrders", inPlace := ["internal/bytealg.IndexByteString", "internal/abi.NoEscape", "internal/bytealg.MakeNoZero", "internal/bytealg.CountString", "internal/bytealg.IndexString", "internal/bytealg.abigen_runtime_cmpstring"], unfollowed := true, recurses := true, named := ["library/rules.standard", "unicode/utf8.first", "unicode/utf8.acceptRanges", "internal/bytealg.MaxLen", "internal/strconv.uint64pow10", "math/bits.deBruijn32tab", "math/bits.deBruijn64tab"], plainKeys := false, apart := false, laid := [("math/bits.deBruijn32tab", laid_math_bits_deBruijn32tab), ("math/bits.deBruijn64tab", laid_math_bits_deBruijn64tab), ("internal/strconv.uint64pow10", laid_internal_strconv_uint64pow10), ("unicode/utf8.acceptRanges", laid_unicode_utf8_acceptRanges), ("library/rules.standard", laid_library_rules_standard), ("unicode/utf8.first", laid_unicode_utf8_first)] }
def BrowseOrdersSaid : Prop := browseOrdersRow.holds Tryz.pinned (OpenSpec.ofChange browseOrdersSpec)

/-- ITS FALSE NEIGHBOUR: 'it returns false'. Refute it at one input. -/
def browseOrdersWrong : ChangeSpec := { name := "browseOrders", fn := fun _ => fun
  | [d1, d2, d3] => { results := [.lit (.bool false)], args := [d1, d2, d3] }
  | _ => none }
def BrowseOrdersWrongFalsely : Prop := browseOrdersRow.holds Tryz.pinned (OpenSpec.ofChange browseOrdersWrong)

/-- 'librarylaw24.BrowseRefers': WHATEVER THE INPUT: true; the input reads as it did. -/
def browseRefersSpec : ChangeSpec := { name := "browseRefers", fn := fun _ => fun
  | [d1, d2, d3] => { results := [.lit (.bool true)], args := [d1, d2, d3] }
  | _ => none }
def browseRefersRow : OpenClaim := { program := "ytanbfhnmklhjiaagreatdoor", sum := "f682428be0cf3734fdbf20d7a25d872121dddfcd3a1c452119c2df81487b3620", func := "library/librarylaw24.BrowseRefers", spec := "browseRefers", inPlace := ["internal/bytealg.IndexByteString", "internal/abi.NoEscape", "internal/bytealg.MakeNoZero", "internal/bytealg.CountString", "internal/bytealg.IndexString", "internal/bytealg.abigen_runtime_cmpstring"], unfollowed := true, recurses := true, named := ["library/rules.standard", "unicode/utf8.first", "unicode/utf8.acceptRanges", "internal/bytealg.MaxLen", "internal/strconv.uint64pow10", "math/bits.deBruijn32tab", "math/bits.deBruijn64tab"], plainKeys := false, apart := false, laid := [("math/bits.deBruijn32tab", laid_math_bits_deBruijn32tab), ("math/bits.deBruijn64tab", laid_math_bits_deBruijn64tab), ("internal/strconv.uint64pow10", laid_internal_strconv_uint64pow10), ("unicode/utf8.acceptRanges", laid_unicode_utf8_acceptRanges), ("library/rules.standard", laid_library_rules_standard), ("unicode/utf8.first", laid_unicode_utf8_first)] }
def BrowseRefersSaid : Prop := browseRefersRow.holds Tryz.pinned (OpenSpec.ofChange browseRefersSpec)

/-- ITS FALSE NEIGHBOUR: 'it returns false'. Refute it at one input. -/
def browseRefersWrong : ChangeSpec := { name := "browseRefers", fn := fun _ => fun
  | [d1, d2, d3] => { results := [.lit (.bool false)], args := [d1, d2, d3] }
  | _ => none }
def BrowseRefersWrongFalsely : Prop := browseRefersRow.holds Tryz.pinned (OpenSpec.ofChange browseRefersWrong)

/-- 'librarylaw13.AuthorityFinds': WHATEVER THE INPUT: true; the input reads as it did. -/
def authorityFindsSpec : ChangeSpec := { name := "authorityFinds", fn := fun _ => fun
  | [d1, d2, d3, d4] => { results := [.lit (.bool true)], args := [d1, d2, d3, d4] }
  | _ => none }
def authorityFindsRow : OpenClaim := { program := "ytanbfhnmklhjiaagreatdoor", sum := "f682428be0cf3734fdbf20d7a25d872121dddfcd3a1c452119c2df81487b3620", func := "library/librarylaw13.AuthorityFinds", spec := "authorityFinds", inPlace := ["internal/bytealg.CountString", "internal/bytealg.IndexByteString", "internal/bytealg.IndexString", "internal/abi.NoEscape", "internal/bytealg.MakeNoZero", "slices.overlaps[library/api.Authority]"], unfollowed := true, recurses := true, named := ["unicode/utf8.first", "unicode/utf8.acceptRanges", "internal/bytealg.MaxLen"], plainKeys := false, apart := false, laid := [("unicode/utf8.acceptRanges", laid_unicode_utf8_acceptRanges), ("unicode/utf8.first", laid_unicode_utf8_first)] }
def AuthorityFindsSaid : Prop := authorityFindsRow.holds Tryz.pinned (OpenSpec.ofChange authorityFindsSpec)

/-- ITS FALSE NEIGHBOUR: 'it returns false'. Refute it at one input. -/
def authorityFindsWrong : ChangeSpec := { name := "authorityFinds", fn := fun _ => fun
  | [d1, d2, d3, d4] => { results := [.lit (.bool false)], args := [d1, d2, d3, d4] }
  | _ => none }
def AuthorityFindsWrongFalsely : Prop := authorityFindsRow.holds Tryz.pinned (OpenSpec.ofChange authorityFindsWrong)

/-- 'librarylaw13.AuthorityTurns': WHATEVER THE INPUT: true; the input reads as it did. -/
def authorityTurnsSpec : ChangeSpec := { name := "authorityTurns", fn := fun _ => fun
  | [d] => { results := [.lit (.bool true)], args := [d] }
  | _ => none }
def authorityTurnsRow : OpenClaim := { program := "ytanbfhnmklhjiaagreatdoor", sum := "f682428be0cf3734fdbf20d7a25d872121dddfcd3a1c452119c2df81487b3620", func := "library/librarylaw13.AuthorityTurns", spec := "authorityTurns", inPlace := ["internal/bytealg.CountString", "internal/bytealg.IndexByteString", "internal/bytealg.IndexString", "internal/abi.NoEscape", "internal/bytealg.MakeNoZero", "slices.overlaps[library/api.Authority]"], unfollowed := true, recurses := true, named := ["unicode/utf8.first", "unicode/utf8.acceptRanges", "internal/bytealg.MaxLen"], plainKeys := false, apart := false, laid := [("unicode/utf8.acceptRanges", laid_unicode_utf8_acceptRanges), ("unicode/utf8.first", laid_unicode_utf8_first)] }
def AuthorityTurnsSaid : Prop := authorityTurnsRow.holds Tryz.pinned (OpenSpec.ofChange authorityTurnsSpec)

/-- ITS FALSE NEIGHBOUR: 'it returns false'. Refute it at one input. -/
def authorityTurnsWrong : ChangeSpec := { name := "authorityTurns", fn := fun _ => fun
  | [d] => { results := [.lit (.bool false)], args := [d] }
  | _ => none }
def AuthorityTurnsWrongFalsely : Prop := authorityTurnsRow.holds Tryz.pinned (OpenSpec.ofChange authorityTurnsWrong)

/-- 'librarylaw13.AuthorityKeeps': WHATEVER THE INPUT: true; the input reads as it did. -/
def authorityKeepsSpec : ChangeSpec := { name := "authorityKeeps", fn := fun _ => fun
  | [d1, d2, d3, d4] => { results := [.lit (.bool true)], args := [d1, d2, d3, d4] }
  | _ => none }
def authorityKeepsRow : OpenClaim := { program := "ytanbfhnmklhjiaagreatdoor", sum := "f682428be0cf3734fdbf20d7a25d872121dddfcd3a1c452119c2df81487b3620", func := "library/librarylaw13.AuthorityKeeps", spec := "authorityKeeps", inPlace := ["internal/bytealg.CountString", "internal/bytealg.IndexByteString", "internal/bytealg.IndexString", "internal/abi.NoEscape", "internal/bytealg.MakeNoZero", "slices.overlaps[library/api.Authority]"], unfollowed := true, recurses := true, named := ["unicode/utf8.first", "unicode/utf8.acceptRanges", "internal/bytealg.MaxLen"], plainKeys := false, apart := false, laid := [("unicode/utf8.acceptRanges", laid_unicode_utf8_acceptRanges), ("unicode/utf8.first", laid_unicode_utf8_first)] }
def AuthorityKeepsSaid : Prop := authorityKeepsRow.holds Tryz.pinned (OpenSpec.ofChange authorityKeepsSpec)

/-- ITS FALSE NEIGHBOUR: 'it returns false'. Refute it at one input. -/
def authorityKeepsWrong : ChangeSpec := { name := "authorityKeeps", fn := fun _ => fun
  | [d1, d2, d3, d4] => { results := [.lit (.bool false)], args := [d1, d2, d3, d4] }
  | _ => none }
def AuthorityKeepsWrongFalsely : Prop := authorityKeepsRow.holds Tryz.pinned (OpenSpec.ofChange authorityKeepsWrong)

/-- 'librarylaw23.FacetValues': WHATEVER THE INPUT: true; the input reads as it did. -/
def facetValuesSpec : ChangeSpec := { name := "facetValues", fn := fun _ => fun
  | [d1, d2] => { results := [.lit (.bool true)], args := [d1, d2] }
  | _ => none }
def facetValuesRow : OpenClaim := { program := "ytanbfhnmklhjiaagreatdoor", sum := "f682428be0cf3734fdbf20d7a25d872121dddfcd3a1c452119c2df81487b3620", func := "library/librarylaw23.FacetValues", spec := "facetValues", inPlace := ["internal/bytealg.IndexByteString", "internal/abi.NoEscape", "internal/bytealg.MakeNoZero", "internal/bytealg.abigen_runtime_cmpstring"], unfollowed := true, recurses := true, named := ["internal/strconv.uint64pow10", "math/bits.deBruijn32tab", "math/bits.deBruijn64tab"], plainKeys := false, apart := false, laid := [("math/bits.deBruijn32tab", laid_math_bits_deBruijn32tab), ("math/bits.deBruijn64tab", laid_math_bits_deBruijn64tab), ("internal/strconv.uint64pow10", laid_internal_strconv_uint64pow10)] }
def FacetValuesSaid : Prop := facetValuesRow.holds Tryz.pinned (OpenSpec.ofChange facetValuesSpec)

/-- ITS FALSE NEIGHBOUR: 'it returns false'. Refute it at one input. -/
def facetValuesWrong : ChangeSpec := { name := "facetValues", fn := fun _ => fun
  | [d1, d2] => { results := [.lit (.bool false)], args := [d1, d2] }
  | _ => none }
def FacetValuesWrongFalsely : Prop := facetValuesRow.holds Tryz.pinned (OpenSpec.ofChange facetValuesWrong)

/-- 'librarylaw23.FacetCounts': WHATEVER THE INPUT: true; the input reads as it did. -/
def facetCountsSpec : ChangeSpec := { name := "facetCounts", fn := fun _ => fun
  | [d1, d2, d3, d4] => { results := [.lit (.bool true)], args := [d1, d2, d3, d4] }
  | _ => none }
def facetCountsRow : OpenClaim := { program := "ytanbfhnmklhjiaagreatdoor", sum := "f682428be0cf3734fdbf20d7a25d872121dddfcd3a1c452119c2df81487b3620", func := "library/librarylaw23.FacetCounts", spec := "facetCounts", inPlace := ["internal/bytealg.IndexByteString", "internal/abi.NoEscape", "internal/bytealg.MakeNoZero", "internal/bytealg.abigen_runtime_cmpstring"], unfollowed := true, recurses := true, named := ["internal/strconv.uint64pow10", "math/bits.deBruijn32tab", "math/bits.deBruijn64tab"], plainKeys := false, apart := false, laid := [("math/bits.deBruijn32tab", laid_math_bits_deBruijn32tab), ("math/bits.deBruijn64tab", laid_math_bits_deBruijn64tab), ("internal/strconv.uint64pow10", laid_internal_strconv_uint64pow10)] }
def FacetCountsSaid : Prop := facetCountsRow.holds Tryz.pinned (OpenSpec.ofChange facetCountsSpec)

/-- ITS FALSE NEIGHBOUR: 'it returns false'. Refute it at one input. -/
def facetCountsWrong : ChangeSpec := { name := "facetCounts", fn := fun _ => fun
  | [d1, d2, d3, d4] => { results := [.lit (.bool false)], args := [d1, d2, d3, d4] }
  | _ => none }
def FacetCountsWrongFalsely : Prop := facetCountsRow.holds Tryz.pinned (OpenSpec.ofChange facetCountsWrong)

/-- 'librarylaw23.FacetTops': WHATEVER THE INPUT: true; the input reads as it did. -/
def facetTopsSpec : ChangeSpec := { name := "facetTops", fn := fun _ => fun
  | [d1, d2] => { results := [.lit (.bool true)], args := [d1, d2] }
  | _ => none }
def facetTopsRow : OpenClaim := { program := "ytanbfhnmklhjiaagreatdoor", sum := "f682428be0cf3734fdbf20d7a25d872121dddfcd3a1c452119c2df81487b3620", func := "library/librarylaw23.FacetTops", spec := "facetTops", inPlace := ["internal/bytealg.IndexByteString", "internal/abi.NoEscape", "internal/bytealg.MakeNoZero", "internal/bytealg.abigen_runtime_cmpstring"], unfollowed := true, recurses := true, named := ["internal/strconv.uint64pow10", "math/bits.deBruijn32tab", "math/bits.deBruijn64tab"], plainKeys := false, apart := false, laid := [("math/bits.deBruijn32tab", laid_math_bits_deBruijn32tab), ("math/bits.deBruijn64tab", laid_math_bits_deBruijn64tab), ("internal/strconv.uint64pow10", laid_internal_strconv_uint64pow10)] }
def FacetTopsSaid : Prop := facetTopsRow.holds Tryz.pinned (OpenSpec.ofChange facetTopsSpec)

/-- ITS FALSE NEIGHBOUR: 'it returns false'. Refute it at one input. -/
def facetTopsWrong : ChangeSpec := { name := "facetTops", fn := fun _ => fun
  | [d1, d2] => { results := [.lit (.bool false)], args := [d1, d2] }
  | _ => none }
def FacetTopsWrongFalsely : Prop := facetTopsRow.holds Tryz.pinned (OpenSpec.ofChange facetTopsWrong)

/-- 'librarylaw23.FacetAgrees': WHATEVER THE INPUT: true; the input reads as it did. -/
def facetAgreesSpec : ChangeSpec := { name := "facetAgrees", fn := fun _ => fun
  | [d1, d2, d3, d4] => { results := [.lit (.bool true)], args := [d1, d2, d3, d4] }
  | _ => none }
def facetAgreesRow : OpenClaim := { program := "ytanbfhnmklhjiaagreatdoor", sum := "f682428be0cf3734fdbf20d7a25d872121dddfcd3a1c452119c2df81487b3620", func := "library/librarylaw23.FacetAgrees", spec := "facetAgrees", inPlace := ["internal/bytealg.IndexByteString", "internal/abi.NoEscape", "internal/bytealg.MakeNoZero", "internal/bytealg.abigen_runtime_cmpstring"], unfollowed := true, recurses := true, named := ["internal/strconv.uint64pow10", "math/bits.deBruijn32tab", "math/bits.deBruijn64tab"], plainKeys := false, apart := false, laid := [("math/bits.deBruijn32tab", laid_math_bits_deBruijn32tab), ("math/bits.deBruijn64tab", laid_math_bits_deBruijn64tab), ("internal/strconv.uint64pow10", laid_internal_strconv_uint64pow10)] }
def FacetAgreesSaid : Prop := facetAgreesRow.holds Tryz.pinned (OpenSpec.ofChange facetAgreesSpec)

/-- ITS FALSE NEIGHBOUR: 'it returns false'. Refute it at one input. -/
def facetAgreesWrong : ChangeSpec := { name := "facetAgrees", fn := fun _ => fun
  | [d1, d2, d3, d4] => { results := [.lit (.bool false)], args := [d1, d2, d3, d4] }
  | _ => none }
def FacetAgreesWrongFalsely : Prop := facetAgreesRow.holds Tryz.pinned (OpenSpec.ofChange facetAgreesWrong)

/-- 'librarylaw23.FacetTwice': WHATEVER THE INPUT: true; the input reads as it did. -/
def facetTwiceSpec : ChangeSpec := { name := "facetTwice", fn := fun _ => fun
  | [d1, d2, d3, d4, d5] => { results := [.lit (.bool true)], args := [d1, d2, d3, d4, d5] }
  | _ => none }
def facetTwiceRow : OpenClaim := { program := "ytanbfhnmklhjiaagreatdoor", sum := "f682428be0cf3734fdbf20d7a25d872121dddfcd3a1c452119c2df81487b3620", func := "library/librarylaw23.FacetTwice", spec := "facetTwice", inPlace := ["internal/bytealg.IndexByteString", "internal/abi.NoEscape", "internal/bytealg.MakeNoZero", "internal/bytealg.abigen_runtime_cmpstring"], unfollowed := true, recurses := true, named := ["internal/strconv.uint64pow10", "math/bits.deBruijn32tab", "math/bits.deBruijn64tab"], plainKeys := false, apart := false, laid := [("math/bits.deBruijn32tab", laid_math_bits_deBruijn32tab), ("math/bits.deBruijn64tab", laid_math_bits_deBruijn64tab), ("internal/strconv.uint64pow10", laid_internal_strconv_uint64pow10)] }
def FacetTwiceSaid : Prop := facetTwiceRow.holds Tryz.pinned (OpenSpec.ofChange facetTwiceSpec)

/-- ITS FALSE NEIGHBOUR: 'it returns false'. Refute it at one input. -/
def facetTwiceWrong : ChangeSpec := { name := "facetTwice", fn := fun _ => fun
  | [d1, d2, d3, d4, d5] => { results := [.lit (.bool false)], args := [d1, d2, d3, d4, d5] }
  | _ => none }
def FacetTwiceWrongFalsely : Prop := facetTwiceRow.holds Tryz.pinned (OpenSpec.ofChange facetTwiceWrong)

/- THE SECOND FORM. 'bulk': how many values and letters a reading holds, each counted each time it is reached (what is shared counts as often as it is met; a slice's spare places count too). A statement '..UptoSaid' is the law's where the arguments, and the package variables that the reading takes, are together of bulk at most 1048576: NARROWER than '..Said'. Prove '..Said' where nothing that the law and all that it calls make is longer than what came in: it says more and counts as full. Else prove '..UptoSaid'. A law counts once. -/
mutual
def uptoBulk {H : Type} : DataW H → Nat
  | .lit (.string bytes) => bytes.length + 1
  | .lit _ => 1
  | .nil => 1
  | .ptr d => uptoBulk d + 1
  | .slice elems spare => uptoBulkAll elems + uptoBulkAll spare + 1
  | .agg parts => uptoBulkAll parts + 1
  | .iface _ d => uptoBulk d + 1
  | .map entries => uptoBulkEntries entries + 1
  | .held _ => 1
def uptoBulkAll {H : Type} : List (DataW H) → Nat
  | [] => 0
  | d :: r => uptoBulk d + uptoBulkAll r
def uptoBulkEntries {H : Type} : List (Lit × DataW H) → Nat
  | [] => 0
  | x :: r => uptoBulkEntry x + uptoBulkEntries r
def uptoBulkEntry {H : Type} : Lit × DataW H → Nat
  | (.string bytes, d) => bytes.length + uptoBulk d + 1
  | (_, d) => uptoBulk d + 1
 end
def uptoSmall : (H : Type) → List (DataW H) → Bool := fun _ ds => decide (uptoBulkAll ds ≤ 1048576)
def OpenSpec.upto (s : _root_.Go.ChangeSpec) : _root_.Go.OpenSpec := { _root_.Go.OpenSpec.ofChange s with cond := some uptoSmall }

/-- 'librarylaw24.BrowseBuilds', WHERE WHAT IT READS IS OF BULK AT MOST 1048576: true; the input reads as it did. -/
def browseBuildsUptoRow : OpenClaim := { program := "ytanbfhnmklhjiaagreatdoor", sum := "f682428be0cf3734fdbf20d7a25d872121dddfcd3a1c452119c2df81487b3620", func := "library/librarylaw24.BrowseBuilds", spec := "browseBuilds", inPlace := ["internal/bytealg.IndexByteString", "internal/abi.NoEscape", "internal/bytealg.MakeNoZero", "internal/bytealg.CountString", "internal/bytealg.IndexString", "internal/bytealg.abigen_runtime_cmpstring"], unfollowed := true, recurses := true, named := ["library/rules.standard", "unicode/utf8.first", "unicode/utf8.acceptRanges", "internal/bytealg.MaxLen", "internal/strconv.uint64pow10", "math/bits.deBruijn32tab", "math/bits.deBruijn64tab"], plainKeys := false, apart := false, laid := [("math/bits.deBruijn32tab", laid_math_bits_deBruijn32tab), ("math/bits.deBruijn64tab", laid_math_bits_deBruijn64tab), ("internal/strconv.uint64pow10", laid_internal_strconv_uint64pow10), ("unicode/utf8.acceptRanges", laid_unicode_utf8_acceptRanges), ("library/rules.standard", laid_library_rules_standard), ("unicode/utf8.first", laid_unicode_utf8_first)], narrowed := true }
def BrowseBuildsUptoSaid : Prop := browseBuildsUptoRow.holds Tryz.pinned (OpenSpec.upto browseBuildsSpec)

/-- 'librarylaw24.BrowseFinds', WHERE WHAT IT READS IS OF BULK AT MOST 1048576: true; the input reads as it did. -/
def browseFindsUptoRow : OpenClaim := { program := "ytanbfhnmklhjiaagreatdoor", sum := "f682428be0cf3734fdbf20d7a25d872121dddfcd3a1c452119c2df81487b3620", func := "library/librarylaw24.BrowseFinds", spec := "browseFinds", inPlace := ["internal/abi.NoEscape", "internal/bytealg.CountString", "internal/bytealg.IndexByteString", "internal/bytealg.IndexString", "internal/bytealg.abigen_runtime_cmpstring", "internal/bytealg.MakeNoZero"], unfollowed := true, recurses := true, named := ["unicode/utf8.first", "unicode/utf8.acceptRanges", "internal/bytealg.MaxLen", "library/rules.standard", "internal/strconv.uint64pow10", "math/bits.deBruijn32tab", "math/bits.deBruijn64tab"], plainKeys := false, apart := false, laid := [("math/bits.deBruijn32tab", laid_math_bits_deBruijn32tab), ("math/bits.deBruijn64tab", laid_math_bits_deBruijn64tab), ("internal/strconv.uint64pow10", laid_internal_strconv_uint64pow10), ("unicode/utf8.acceptRanges", laid_unicode_utf8_acceptRanges), ("library/rules.standard", laid_library_rules_standard), ("unicode/utf8.first", laid_unicode_utf8_first)], narrowed := true }
def BrowseFindsUptoSaid : Prop := browseFindsUptoRow.holds Tryz.pinned (OpenSpec.upto browseFindsSpec)

/-- 'librarylaw24.BrowseOrders', WHERE WHAT IT READS IS OF BULK AT MOST 1048576: true; the input reads as it did. -/
def browseOrdersUptoRow : OpenClaim := { program := "ytanbfhnmklhjiaagreatdoor", sum := "f682428be0cf3734fdbf20d7a25d872121dddfcd3a1c452119c2df81487b3620", func := "library/librarylaw24.BrowseOrders", spec := "browseOrders", inPlace := ["internal/bytealg.IndexByteString", "internal/abi.NoEscape", "internal/bytealg.MakeNoZero", "internal/bytealg.CountString", "internal/bytealg.IndexString", "internal/bytealg.abigen_runtime_cmpstring"], unfollowed := true, recurses := true, named := ["library/rules.standard", "unicode/utf8.first", "unicode/utf8.acceptRanges", "internal/bytealg.MaxLen", "internal/strconv.uint64pow10", "math/bits.deBruijn32tab", "math/bits.deBruijn64tab"], plainKeys := false, apart := false, laid := [("math/bits.deBruijn32tab", laid_math_bits_deBruijn32tab), ("math/bits.deBruijn64tab", laid_math_bits_deBruijn64tab), ("internal/strconv.uint64pow10", laid_internal_strconv_uint64pow10), ("unicode/utf8.acceptRanges", laid_unicode_utf8_acceptRanges), ("library/rules.standard", laid_library_rules_standard), ("unicode/utf8.first", laid_unicode_utf8_first)], narrowed := true }
def BrowseOrdersUptoSaid : Prop := browseOrdersUptoRow.holds Tryz.pinned (OpenSpec.upto browseOrdersSpec)

/-- 'librarylaw24.BrowseRefers', WHERE WHAT IT READS IS OF BULK AT MOST 1048576: true; the input reads as it did. -/
def browseRefersUptoRow : OpenClaim := { program := "ytanbfhnmklhjiaagreatdoor", sum := "f682428be0cf3734fdbf20d7a25d872121dddfcd3a1c452119c2df81487b3620", func := "library/librarylaw24.BrowseRefers", spec := "browseRefers", inPlace := ["internal/bytealg.IndexByteString", "internal/abi.NoEscape", "internal/bytealg.MakeNoZero", "internal/bytealg.CountString", "internal/bytealg.IndexString", "internal/bytealg.abigen_runtime_cmpstring"], unfollowed := true, recurses := true, named := ["library/rules.standard", "unicode/utf8.first", "unicode/utf8.acceptRanges", "internal/bytealg.MaxLen", "internal/strconv.uint64pow10", "math/bits.deBruijn32tab", "math/bits.deBruijn64tab"], plainKeys := false, apart := false, laid := [("math/bits.deBruijn32tab", laid_math_bits_deBruijn32tab), ("math/bits.deBruijn64tab", laid_math_bits_deBruijn64tab), ("internal/strconv.uint64pow10", laid_internal_strconv_uint64pow10), ("unicode/utf8.acceptRanges", laid_unicode_utf8_acceptRanges), ("library/rules.standard", laid_library_rules_standard), ("unicode/utf8.first", laid_unicode_utf8_first)], narrowed := true }
def BrowseRefersUptoSaid : Prop := browseRefersUptoRow.holds Tryz.pinned (OpenSpec.upto browseRefersSpec)

/-- 'librarylaw13.AuthorityFinds', WHERE WHAT IT READS IS OF BULK AT MOST 1048576: true; the input reads as it did. -/
def authorityFindsUptoRow : OpenClaim := { program := "ytanbfhnmklhjiaagreatdoor", sum := "f682428be0cf3734fdbf20d7a25d872121dddfcd3a1c452119c2df81487b3620", func := "library/librarylaw13.AuthorityFinds", spec := "authorityFinds", inPlace := ["internal/bytealg.CountString", "internal/bytealg.IndexByteString", "internal/bytealg.IndexString", "internal/abi.NoEscape", "internal/bytealg.MakeNoZero", "slices.overlaps[library/api.Authority]"], unfollowed := true, recurses := true, named := ["unicode/utf8.first", "unicode/utf8.acceptRanges", "internal/bytealg.MaxLen"], plainKeys := false, apart := false, laid := [("unicode/utf8.acceptRanges", laid_unicode_utf8_acceptRanges), ("unicode/utf8.first", laid_unicode_utf8_first)], narrowed := true }
def AuthorityFindsUptoSaid : Prop := authorityFindsUptoRow.holds Tryz.pinned (OpenSpec.upto authorityFindsSpec)

/-- 'librarylaw13.AuthorityTurns', WHERE WHAT IT READS IS OF BULK AT MOST 1048576: true; the input reads as it did. -/
def authorityTurnsUptoRow : OpenClaim := { program := "ytanbfhnmklhjiaagreatdoor", sum := "f682428be0cf3734fdbf20d7a25d872121dddfcd3a1c452119c2df81487b3620", func := "library/librarylaw13.AuthorityTurns", spec := "authorityTurns", inPlace := ["internal/bytealg.CountString", "internal/bytealg.IndexByteString", "internal/bytealg.IndexString", "internal/abi.NoEscape", "internal/bytealg.MakeNoZero", "slices.overlaps[library/api.Authority]"], unfollowed := true, recurses := true, named := ["unicode/utf8.first", "unicode/utf8.acceptRanges", "internal/bytealg.MaxLen"], plainKeys := false, apart := false, laid := [("unicode/utf8.acceptRanges", laid_unicode_utf8_acceptRanges), ("unicode/utf8.first", laid_unicode_utf8_first)], narrowed := true }
def AuthorityTurnsUptoSaid : Prop := authorityTurnsUptoRow.holds Tryz.pinned (OpenSpec.upto authorityTurnsSpec)

/-- 'librarylaw13.AuthorityKeeps', WHERE WHAT IT READS IS OF BULK AT MOST 1048576: true; the input reads as it did. -/
def authorityKeepsUptoRow : OpenClaim := { program := "ytanbfhnmklhjiaagreatdoor", sum := "f682428be0cf3734fdbf20d7a25d872121dddfcd3a1c452119c2df81487b3620", func := "library/librarylaw13.AuthorityKeeps", spec := "authorityKeeps", inPlace := ["internal/bytealg.CountString", "internal/bytealg.IndexByteString", "internal/bytealg.IndexString", "internal/abi.NoEscape", "internal/bytealg.MakeNoZero", "slices.overlaps[library/api.Authority]"], unfollowed := true, recurses := true, named := ["unicode/utf8.first", "unicode/utf8.acceptRanges", "internal/bytealg.MaxLen"], plainKeys := false, apart := false, laid := [("unicode/utf8.acceptRanges", laid_unicode_utf8_acceptRanges), ("unicode/utf8.first", laid_unicode_utf8_first)], narrowed := true }
def AuthorityKeepsUptoSaid : Prop := authorityKeepsUptoRow.holds Tryz.pinned (OpenSpec.upto authorityKeepsSpec)

/-- 'librarylaw23.FacetValues', WHERE WHAT IT READS IS OF BULK AT MOST 1048576: true; the input reads as it did. -/
def facetValuesUptoRow : OpenClaim := { program := "ytanbfhnmklhjiaagreatdoor", sum := "f682428be0cf3734fdbf20d7a25d872121dddfcd3a1c452119c2df81487b3620", func := "library/librarylaw23.FacetValues", spec := "facetValues", inPlace := ["internal/bytealg.IndexByteString", "internal/abi.NoEscape", "internal/bytealg.MakeNoZero", "internal/bytealg.abigen_runtime_cmpstring"], unfollowed := true, recurses := true, named := ["internal/strconv.uint64pow10", "math/bits.deBruijn32tab", "math/bits.deBruijn64tab"], plainKeys := false, apart := false, laid := [("math/bits.deBruijn32tab", laid_math_bits_deBruijn32tab), ("math/bits.deBruijn64tab", laid_math_bits_deBruijn64tab), ("internal/strconv.uint64pow10", laid_internal_strconv_uint64pow10)], narrowed := true }
def FacetValuesUptoSaid : Prop := facetValuesUptoRow.holds Tryz.pinned (OpenSpec.upto facetValuesSpec)

/-- 'librarylaw23.FacetCounts', WHERE WHAT IT READS IS OF BULK AT MOST 1048576: true; the input reads as it did. -/
def facetCountsUptoRow : OpenClaim := { program := "ytanbfhnmklhjiaagreatdoor", sum := "f682428be0cf3734fdbf20d7a25d872121dddfcd3a1c452119c2df81487b3620", func := "library/librarylaw23.FacetCounts", spec := "facetCounts", inPlace := ["internal/bytealg.IndexByteString", "internal/abi.NoEscape", "internal/bytealg.MakeNoZero", "internal/bytealg.abigen_runtime_cmpstring"], unfollowed := true, recurses := true, named := ["internal/strconv.uint64pow10", "math/bits.deBruijn32tab", "math/bits.deBruijn64tab"], plainKeys := false, apart := false, laid := [("math/bits.deBruijn32tab", laid_math_bits_deBruijn32tab), ("math/bits.deBruijn64tab", laid_math_bits_deBruijn64tab), ("internal/strconv.uint64pow10", laid_internal_strconv_uint64pow10)], narrowed := true }
def FacetCountsUptoSaid : Prop := facetCountsUptoRow.holds Tryz.pinned (OpenSpec.upto facetCountsSpec)

/-- 'librarylaw23.FacetTops', WHERE WHAT IT READS IS OF BULK AT MOST 1048576: true; the input reads as it did. -/
def facetTopsUptoRow : OpenClaim := { program := "ytanbfhnmklhjiaagreatdoor", sum := "f682428be0cf3734fdbf20d7a25d872121dddfcd3a1c452119c2df81487b3620", func := "library/librarylaw23.FacetTops", spec := "facetTops", inPlace := ["internal/bytealg.IndexByteString", "internal/abi.NoEscape", "internal/bytealg.MakeNoZero", "internal/bytealg.abigen_runtime_cmpstring"], unfollowed := true, recurses := true, named := ["internal/strconv.uint64pow10", "math/bits.deBruijn32tab", "math/bits.deBruijn64tab"], plainKeys := false, apart := false, laid := [("math/bits.deBruijn32tab", laid_math_bits_deBruijn32tab), ("math/bits.deBruijn64tab", laid_math_bits_deBruijn64tab), ("internal/strconv.uint64pow10", laid_internal_strconv_uint64pow10)], narrowed := true }
def FacetTopsUptoSaid : Prop := facetTopsUptoRow.holds Tryz.pinned (OpenSpec.upto facetTopsSpec)

/-- 'librarylaw23.FacetAgrees', WHERE WHAT IT READS IS OF BULK AT MOST 1048576: true; the input reads as it did. -/
def facetAgreesUptoRow : OpenClaim := { program := "ytanbfhnmklhjiaagreatdoor", sum := "f682428be0cf3734fdbf20d7a25d872121dddfcd3a1c452119c2df81487b3620", func := "library/librarylaw23.FacetAgrees", spec := "facetAgrees", inPlace := ["internal/bytealg.IndexByteString", "internal/abi.NoEscape", "internal/bytealg.MakeNoZero", "internal/bytealg.abigen_runtime_cmpstring"], unfollowed := true, recurses := true, named := ["internal/strconv.uint64pow10", "math/bits.deBruijn32tab", "math/bits.deBruijn64tab"], plainKeys := false, apart := false, laid := [("math/bits.deBruijn32tab", laid_math_bits_deBruijn32tab), ("math/bits.deBruijn64tab", laid_math_bits_deBruijn64tab), ("internal/strconv.uint64pow10", laid_internal_strconv_uint64pow10)], narrowed := true }
def FacetAgreesUptoSaid : Prop := facetAgreesUptoRow.holds Tryz.pinned (OpenSpec.upto facetAgreesSpec)

/-- 'librarylaw23.FacetTwice', WHERE WHAT IT READS IS OF BULK AT MOST 1048576: true; the input reads as it did. -/
def facetTwiceUptoRow : OpenClaim := { program := "ytanbfhnmklhjiaagreatdoor", sum := "f682428be0cf3734fdbf20d7a25d872121dddfcd3a1c452119c2df81487b3620", func := "library/librarylaw23.FacetTwice", spec := "facetTwice", inPlace := ["internal/bytealg.IndexByteString", "internal/abi.NoEscape", "internal/bytealg.MakeNoZero", "internal/bytealg.abigen_runtime_cmpstring"], unfollowed := true, recurses := true, named := ["internal/strconv.uint64pow10", "math/bits.deBruijn32tab", "math/bits.deBruijn64tab"], plainKeys := false, apart := false, laid := [("math/bits.deBruijn32tab", laid_math_bits_deBruijn32tab), ("math/bits.deBruijn64tab", laid_math_bits_deBruijn64tab), ("internal/strconv.uint64pow10", laid_internal_strconv_uint64pow10)], narrowed := true }
def FacetTwiceUptoSaid : Prop := facetTwiceUptoRow.holds Tryz.pinned (OpenSpec.upto facetTwiceSpec)

end Rows
end Go.Proofs.YtanbfhnmklhjiaaGreatDoor
