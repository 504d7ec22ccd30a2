/-
  No cell of these rows narrows 'for every input' (looked for: loops, veiled, ifaces, maps, wideKeys, modest, calm, conditions, laid).
  DERIVED. THE GIVEN ROWS OF THIS SEAT. 6 by the template 'for every input the law returns true; each argument reads behind the call as it read before'; 0 by the template 'total and deterministic' (their statements: YtjnljbimandmcaaTotals.lean).
  GIVEN WITH THE SEED: the statements are not yours to turn. If you find one false, say at which input.
  Laid BY PROGRAM, IN A SANDBOX (cutbox-rows.mjs): the forced cells as the released guide's own fill.sh prints them over the translation 9f99a8f8ffbedb17… (all of the seat's roots in one cut). By AI agents, Wed Nov 11 2026. No macro, syntax, notation, axiom, sorry.
-/
import Derived.Test.YtjnljbimandmcaaChecked
import GoSem.Claim
import GoSem.ClaimJoined
import GoSem.ClaimMapViews
import Derived.JoinedTies
import Derived.KernelRfl
namespace Go.Proofs.Ytjnljbimandmcaa
/- THE CELL 'sum', in the pinned program and in every row, IS THE sha256 OF THE DUMP (.gsa) THAT YtjnljbimandmcaaProg.lean LOADS. Nothing in Lean hashes anything: it is a label: what it is worth is what the hold of that sum in a sandbox is worth. -/
noncomputable def Try.pinned : Pinned := { name := "ytjnljbimandmcaa", sum := "9f99a8f8ffbedb175e3aee5f2ab7c13ce815fd845241197d5c6abcb42008d864", checked := Try.checked }
namespace Rows
def none {H : Type} : Left H := { results := [], args := [] }

/-- 'librarylaw49.PrivacyRights': WHATEVER THE INPUT: true; the input reads as it did. -/
def privacyRightsSpec : ChangeSpec := { name := "privacyRights", fn := fun _ => fun
  | [d] => { results := [.lit (.bool true)], args := [d] }
  | _ => none }
def privacyRightsRow : OpenClaim := { program := "ytjnljbimandmcaa", sum := "9f99a8f8ffbedb175e3aee5f2ab7c13ce815fd845241197d5c6abcb42008d864", func := "library/librarylaw49.PrivacyRights", spec := "privacyRights", unfollowed := true, recurses := true, apart := false }
def PrivacyRightsSaid : Prop := privacyRightsRow.holds Try.pinned (OpenSpec.ofChange privacyRightsSpec)

/-- ITS FALSE NEIGHBOUR: 'it returns false'. Refute it at one input. -/
def privacyRightsWrong : ChangeSpec := { name := "privacyRights", fn := fun _ => fun
  | [d] => { results := [.lit (.bool false)], args := [d] }
  | _ => none }
def PrivacyRightsWrongFalsely : Prop := privacyRightsRow.holds Try.pinned (OpenSpec.ofChange privacyRightsWrong)

/-- 'librarylaw49.PrivacyForgets': WHATEVER THE INPUT: true; the input reads as it did. -/
def privacyForgetsSpec : ChangeSpec := { name := "privacyForgets", fn := fun _ => fun
  | [d1, d2, d3] => { results := [.lit (.bool true)], args := [d1, d2, d3] }
  | _ => none }
def privacyForgetsRow : OpenClaim := { program := "ytjnljbimandmcaa", sum := "9f99a8f8ffbedb175e3aee5f2ab7c13ce815fd845241197d5c6abcb42008d864", func := "library/librarylaw49.PrivacyForgets", spec := "privacyForgets", unfollowed := true, recurses := true, apart := false }
def PrivacyForgetsSaid : Prop := privacyForgetsRow.holds Try.pinned (OpenSpec.ofChange privacyForgetsSpec)

/-- ITS FALSE NEIGHBOUR: 'it returns false'. Refute it at one input. -/
def privacyForgetsWrong : ChangeSpec := { name := "privacyForgets", fn := fun _ => fun
  | [d1, d2, d3] => { results := [.lit (.bool false)], args := [d1, d2, d3] }
  | _ => none }
def PrivacyForgetsWrongFalsely : Prop := privacyForgetsRow.holds Try.pinned (OpenSpec.ofChange privacyForgetsWrong)

/-- 'librarylaw49.PrivacyHides': WHATEVER THE INPUT: true; the input reads as it did. -/
def privacyHidesSpec : ChangeSpec := { name := "privacyHides", fn := fun _ => fun
  | [d1, d2] => { results := [.lit (.bool true)], args := [d1, d2] }
  | _ => none }
def privacyHidesRow : OpenClaim := { program := "ytjnljbimandmcaa", sum := "9f99a8f8ffbedb175e3aee5f2ab7c13ce815fd845241197d5c6abcb42008d864", func := "library/librarylaw49.PrivacyHides", spec := "privacyHides", unfollowed := true, recurses := true, apart := false }
def PrivacyHidesSaid : Prop := privacyHidesRow.holds Try.pinned (OpenSpec.ofChange privacyHidesSpec)

/-- ITS FALSE NEIGHBOUR: 'it returns false'. Refute it at one input. -/
def privacyHidesWrong : ChangeSpec := { name := "privacyHides", fn := fun _ => fun
  | [d1, d2] => { results := [.lit (.bool false)], args := [d1, d2] }
  | _ => none }
def PrivacyHidesWrongFalsely : Prop := privacyHidesRow.holds Try.pinned (OpenSpec.ofChange privacyHidesWrong)

/-- 'librarylaw49.PrivacyKeeps': WHATEVER THE INPUT: true; the input reads as it did. -/
def privacyKeepsSpec : ChangeSpec := { name := "privacyKeeps", fn := fun _ => fun
  | [d1, d2] => { results := [.lit (.bool true)], args := [d1, d2] }
  | _ => none }
def privacyKeepsRow : OpenClaim := { program := "ytjnljbimandmcaa", sum := "9f99a8f8ffbedb175e3aee5f2ab7c13ce815fd845241197d5c6abcb42008d864", func := "library/librarylaw49.PrivacyKeeps", spec := "privacyKeeps", unfollowed := true, recurses := true, apart := false }
def PrivacyKeepsSaid : Prop := privacyKeepsRow.holds Try.pinned (OpenSpec.ofChange privacyKeepsSpec)

/-- ITS FALSE NEIGHBOUR: 'it returns false'. Refute it at one input. -/
def privacyKeepsWrong : ChangeSpec := { name := "privacyKeeps", fn := fun _ => fun
  | [d1, d2] => { results := [.lit (.bool false)], args := [d1, d2] }
  | _ => none }
def PrivacyKeepsWrongFalsely : Prop := privacyKeepsRow.holds Try.pinned (OpenSpec.ofChange privacyKeepsWrong)

/-- 'librarylaw49.PrivacyOthers': WHATEVER THE INPUT: true; the input reads as it did. -/
def privacyOthersSpec : ChangeSpec := { name := "privacyOthers", fn := fun _ => fun
  | [d1, d2] => { results := [.lit (.bool true)], args := [d1, d2] }
  | _ => none }
def privacyOthersRow : OpenClaim := { program := "ytjnljbimandmcaa", sum := "9f99a8f8ffbedb175e3aee5f2ab7c13ce815fd845241197d5c6abcb42008d864", func := "library/librarylaw49.PrivacyOthers", spec := "privacyOthers", unfollowed := true, recurses := true, apart := false }
def PrivacyOthersSaid : Prop := privacyOthersRow.holds Try.pinned (OpenSpec.ofChange privacyOthersSpec)

/-- ITS FALSE NEIGHBOUR: 'it returns false'. Refute it at one input. -/
def privacyOthersWrong : ChangeSpec := { name := "privacyOthers", fn := fun _ => fun
  | [d1, d2] => { results := [.lit (.bool false)], args := [d1, d2] }
  | _ => none }
def PrivacyOthersWrongFalsely : Prop := privacyOthersRow.holds Try.pinned (OpenSpec.ofChange privacyOthersWrong)

/-- 'librarylaw49.PrivacyStays': WHATEVER THE INPUT: true; the input reads as it did. -/
def privacyStaysSpec : ChangeSpec := { name := "privacyStays", fn := fun _ => fun
  | [d1, d2, d3] => { results := [.lit (.bool true)], args := [d1, d2, d3] }
  | _ => none }
def privacyStaysRow : OpenClaim := { program := "ytjnljbimandmcaa", sum := "9f99a8f8ffbedb175e3aee5f2ab7c13ce815fd845241197d5c6abcb42008d864", func := "library/librarylaw49.PrivacyStays", spec := "privacyStays", unfollowed := true, recurses := true, apart := false }
def PrivacyStaysSaid : Prop := privacyStaysRow.holds Try.pinned (OpenSpec.ofChange privacyStaysSpec)

/-- ITS FALSE NEIGHBOUR: 'it returns false'. Refute it at one input. -/
def privacyStaysWrong : ChangeSpec := { name := "privacyStays", fn := fun _ => fun
  | [d1, d2, d3] => { results := [.lit (.bool false)], args := [d1, d2, d3] }
  | _ => none }
def PrivacyStaysWrongFalsely : Prop := privacyStaysRow.holds Try.pinned (OpenSpec.ofChange privacyStaysWrong)

/- THE SECOND FORM. 'bulk': how many values and letters a reading holds, each counted each time it is reached (what is shared counts as often as it is met; a slice's spare places count too). A statement '..UptoSaid' is the law's where the arguments, and the package variables that the reading takes, are together of bulk at most 1048576: NARROWER than '..Said'. Prove '..Said' where nothing that the law and all that it calls make is longer than what came in: it says more and counts as full. Else prove '..UptoSaid'. A law counts once. -/
mutual
def uptoBulk {H : Type} : DataW H → Nat
  | .lit (.string bytes) => bytes.length + 1
  | .lit _ => 1
  | .nil => 1
  | .ptr d => uptoBulk d + 1
  | .slice elems spare => uptoBulkAll elems + uptoBulkAll spare + 1
  | .agg parts => uptoBulkAll parts + 1
  | .iface _ d => uptoBulk d + 1
  | .map entries => uptoBulkEntries entries + 1
  | .held _ => 1
def uptoBulkAll {H : Type} : List (DataW H) → Nat
  | [] => 0
  | d :: r => uptoBulk d + uptoBulkAll r
def uptoBulkEntries {H : Type} : List (Lit × DataW H) → Nat
  | [] => 0
  | x :: r => uptoBulkEntry x + uptoBulkEntries r
def uptoBulkEntry {H : Type} : Lit × DataW H → Nat
  | (.string bytes, d) => bytes.length + uptoBulk d + 1
  | (_, d) => uptoBulk d + 1
 end
def uptoSmall : (H : Type) → List (DataW H) → Bool := fun _ ds => decide (uptoBulkAll ds ≤ 1048576)
def OpenSpec.upto (s : _root_.Go.ChangeSpec) : _root_.Go.OpenSpec := { _root_.Go.OpenSpec.ofChange s with cond := some uptoSmall }

/-- 'librarylaw49.PrivacyRights', WHERE WHAT IT READS IS OF BULK AT MOST 1048576: true; the input reads as it did. -/
def privacyRightsUptoRow : OpenClaim := { program := "ytjnljbimandmcaa", sum := "9f99a8f8ffbedb175e3aee5f2ab7c13ce815fd845241197d5c6abcb42008d864", func := "library/librarylaw49.PrivacyRights", spec := "privacyRights", unfollowed := true, recurses := true, apart := false, narrowed := true }
def PrivacyRightsUptoSaid : Prop := privacyRightsUptoRow.holds Try.pinned (OpenSpec.upto privacyRightsSpec)

/-- 'librarylaw49.PrivacyForgets', WHERE WHAT IT READS IS OF BULK AT MOST 1048576: true; the input reads as it did. -/
def privacyForgetsUptoRow : OpenClaim := { program := "ytjnljbimandmcaa", sum := "9f99a8f8ffbedb175e3aee5f2ab7c13ce815fd845241197d5c6abcb42008d864", func := "library/librarylaw49.PrivacyForgets", spec := "privacyForgets", unfollowed := true, recurses := true, apart := false, narrowed := true }
def PrivacyForgetsUptoSaid : Prop := privacyForgetsUptoRow.holds Try.pinned (OpenSpec.upto privacyForgetsSpec)

/-- 'librarylaw49.PrivacyHides', WHERE WHAT IT READS IS OF BULK AT MOST 1048576: true; the input reads as it did. -/
def privacyHidesUptoRow : OpenClaim := { program := "ytjnljbimandmcaa", sum := "9f99a8f8ffbedb175e3aee5f2ab7c13ce815fd845241197d5c6abcb42008d864", func := "library/librarylaw49.PrivacyHides", spec := "privacyHides", unfollowed := true, recurses := true, apart := false, narrowed := true }
def PrivacyHidesUptoSaid : Prop := privacyHidesUptoRow.holds Try.pinned (OpenSpec.upto privacyHidesSpec)

/-- 'librarylaw49.PrivacyKeeps', WHERE WHAT IT READS IS OF BULK AT MOST 1048576: true; the input reads as it did. -/
def privacyKeepsUptoRow : OpenClaim := { program := "ytjnljbimandmcaa", sum := "9f99a8f8ffbedb175e3aee5f2ab7c13ce815fd845241197d5c6abcb42008d864", func := "library/librarylaw49.PrivacyKeeps", spec := "privacyKeeps", unfollowed := true, recurses := true, apart := false, narrowed := true }
def PrivacyKeepsUptoSaid : Prop := privacyKeepsUptoRow.holds Try.pinned (OpenSpec.upto privacyKeepsSpec)

/-- 'librarylaw49.PrivacyOthers', WHERE WHAT IT READS IS OF BULK AT MOST 1048576: true; the input reads as it did. -/
def privacyOthersUptoRow : OpenClaim := { program := "ytjnljbimandmcaa", sum := "9f99a8f8ffbedb175e3aee5f2ab7c13ce815fd845241197d5c6abcb42008d864", func := "library/librarylaw49.PrivacyOthers", spec := "privacyOthers", unfollowed := true, recurses := true, apart := false, narrowed := true }
def PrivacyOthersUptoSaid : Prop := privacyOthersUptoRow.holds Try.pinned (OpenSpec.upto privacyOthersSpec)

/-- 'librarylaw49.PrivacyStays', WHERE WHAT IT READS IS OF BULK AT MOST 1048576: true; the input reads as it did. -/
def privacyStaysUptoRow : OpenClaim := { program := "ytjnljbimandmcaa", sum := "9f99a8f8ffbedb175e3aee5f2ab7c13ce815fd845241197d5c6abcb42008d864", func := "library/librarylaw49.PrivacyStays", spec := "privacyStays", unfollowed := true, recurses := true, apart := false, narrowed := true }
def PrivacyStaysUptoSaid : Prop := privacyStaysUptoRow.holds Try.pinned (OpenSpec.upto privacyStaysSpec)

end Rows
end Go.Proofs.Ytjnljbimandmcaa
