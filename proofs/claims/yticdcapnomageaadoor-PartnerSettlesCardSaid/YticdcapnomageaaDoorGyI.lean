/- Part of a proof about this program; no condition of its own. -/
import Derived.Test.YticdcapnomageaaDoorGyD
import Derived.Test.YticdcapnomageaaDoorGxD
import Derived.Test.YticdcapnomageaaDoorCards
import Derived.Test.YticdcapnomageaaDoorTie
import Derived.WalkKit
import Derived.ProofKit
import Derived.OpenShut
import Derived.Deep.DeepHandedRow
import Derived.Deep.DeepWitnessRowRef
import Derived.Test.YticdcapnomageaaDoorGyE
import Derived.Test.YticdcapnomageaaDoorGyF
set_option linter.all false
/- What the arguments of the statements on loans between libraries read as, and the listed variables. No condition. -/
namespace Go.Il
open Go Go.Ax
abbrev shM : List Cs := [.int .i64, .int .i64, .int .i64, .int .i64, .int .i64, .int .i64, .int .i64, .str]
abbrev shS : List Cs := [.int .i64, .int .i64, .int .i64, .int .i64, .int .i64, .int .i64, .int .i64, .lst shM, .lst shM]
theorem fitM {e : List D} (h : All2 FitC shM e) : ∃ x : Msg, e = x.ds := by
  cases h with | cons h1 h => cases h with | cons h2 h => cases h with | cons h3 h => cases h with | cons h4 h => cases h with | cons h5 h => cases h with | cons h6 h => cases h with | cons h7 h => cases h with | cons h8 h =>
  cases h
  obtain ⟨n1, rfl, _⟩ := fit_int h1
  obtain ⟨n2, rfl, _⟩ := fit_int h2
  obtain ⟨n3, rfl, _⟩ := fit_int h3
  obtain ⟨n4, rfl, _⟩ := fit_int h4
  obtain ⟨n5, rfl, _⟩ := fit_int h5
  obtain ⟨n6, rfl, _⟩ := fit_int h6
  obtain ⟨n7, rfl, _⟩ := fit_int h7
  obtain ⟨s8, rfl, _⟩ := fit_str h8
  exact ⟨⟨n1, n2, n3, n4, n5, n6, n7, s8⟩, rfl⟩
theorem fitMs {x : D} (h : FitC (.lst shM) x) : ∃ l : List Msg, x = .lst 8 (l.map Msg.ds) := by
  obtain ⟨els, rfl, he⟩ := fit_lst h
  obtain ⟨l, rfl⟩ := exists_list (ds := Msg.ds) fun e h => fitM (he e h)
  exact ⟨l, rfl⟩
theorem fitS {e : List D} (h : All2 FitC shS e) : ∃ x : Side, e = x.ds := by
  cases h with | cons h1 h => cases h with | cons h2 h => cases h with | cons h3 h => cases h with | cons h4 h => cases h with | cons h5 h => cases h with | cons h6 h => cases h with | cons h7 h => cases h with | cons h8 h => cases h with | cons h9 h =>
  cases h
  obtain ⟨n1, rfl, _⟩ := fit_int h1
  obtain ⟨n2, rfl, _⟩ := fit_int h2
  obtain ⟨n3, rfl, _⟩ := fit_int h3
  obtain ⟨n4, rfl, _⟩ := fit_int h4
  obtain ⟨n5, rfl, _⟩ := fit_int h5
  obtain ⟨n6, rfl, _⟩ := fit_int h6
  obtain ⟨n7, rfl, _⟩ := fit_int h7
  obtain ⟨l8, rfl⟩ := fitMs h8
  obtain ⟨l9, rfl⟩ := fitMs h9
  exact ⟨⟨n1, n2, n3, n4, n5, n6, n7, l8, l9⟩, rfl⟩
end Go.Il
namespace Go.Proofs.YticdcapnomageaaDoor
open Go Go.ChangeShapes Go.WideShapes Go.RowKit Go.Ax Go.Il Go.Tx
theorem laid_tail {P : Program} {W : World} {x : String × DataW Unit} {q : List (String × DataW Unit)} (h : ∃ ps, DataW.LaidVars P W (x :: q) ps) : ∃ ps, DataW.LaidVars P W q ps := by
  obtain ⟨ps, g, t, cs, fuel, p, q', _, _, _, _, h5, _⟩ := h
  exact ⟨_, h5⟩
theorem own : ownKnob Tryd.prog.godebug = none := by kernel_rfl
theorem g0 : Tryd.prog.globalNamed "library/ill.messages" = some 0 := by kernel_rfl
theorem g1 : Tryd.prog.globalNamed "unicode/utf8.first" = some 1 := by kernel_rfl
theorem g2 : Tryd.prog.globalNamed "unicode/utf8.acceptRanges" = some 2 := by kernel_rfl
noncomputable def gt (n : Nat) : TypeId := ((Tryd.prog.globals[n]?).map (·.type)).getD 0
theorem ok0 : okT Tryd.prog 6 (gt 0) = true := by kernel_rfl
theorem ok1 : okT Tryd.prog 6 (gt 1) = true := by kernel_rfl
theorem ok2 : okT Tryd.prog 6 (gt 2) = true := by kernel_rfl
theorem d0 : dT Tryd.prog 6 (gt 0) (Rows.laid_library_ill_messages (H := Unit)) = (kinds.map Kd.ds).flatten := by kernel_rfl
theorem d1 : dT Tryd.prog 6 (gt 1) Rows.laid_unicode_utf8_first = firstD := by kernel_rfl
theorem d2 : dT Tryd.prog 6 (gt 2) (Rows.laid_unicode_utf8_acceptRanges (H := Unit)) = acceptD := by kernel_rfl
theorem globs {W : World} (h : laidMet Tryd.prog [("unicode/utf8.acceptRanges", Rows.laid_unicode_utf8_acceptRanges), ("library/ill.messages", Rows.laid_library_ill_messages), ("unicode/utf8.first", Rows.laid_unicode_utf8_first)] W) : ViewOk Γ0 (wV W) W := by
  obtain ⟨ps, hl, _⟩ := h
  have h1 := laid_tail ⟨ps, hl⟩
  have h2 := laid_tail h1
  refine viewOk_world fun p hp => ?_
  simp only [Γ0, List.mem_cons, List.not_mem_nil, or_false] at hp
  rcases hp with rfl | rfl | rfl
  · obtain ⟨ps, h⟩ := h2
    exact glob_data 6 g1 (by kernel_rfl) ok1 d1 ⟨ps, _, h⟩
  · exact glob_data 6 g2 (by kernel_rfl) ok2 d2 ⟨ps, _, hl⟩
  · obtain ⟨ps, h⟩ := h1
    exact glob_data 6 g0 (by kernel_rfl) ok0 d0 ⟨ps, _, h⟩
/-- A world for the witness: the settled one, the variables as their initialisers lay them. -/
def slC (b : Nat) (l : List Int) : Value := if l = [] then .slice none 0 0 else .slice (some ⟨b, 0, none⟩) l.length l.length
def kdC (b : Nat) (k : Kd) : List Value := [.int .i64 k.role, slC b k.sent, .int .i64 k.state, .int .i64 k.due, slC (b + 1) k.taken]
def kdsC : Nat → List Kd → List Value
  | _, [] => []
  | b, k :: r => kdC b k ++ kdsC (b + 2) r
def kdB (k : Kd) : List Obj := [.cells (k.sent.map fun n => Value.int .i64 n).toArray 3, .cells (k.taken.map fun n => Value.int .i64 n).toArray 3]
def DtoV : D → Value
  | .int k n => .int k n
  | _ => undef
noncomputable def laidWorld (os : Os) : World :=
  let W := World.holding Tryd.prog os ⟨#[], #[], []⟩
  { W with heap := (((W.heap.modify 0 fun
      | .cells _ t frozen => .cells (kdsC W.heap.size kinds).toArray t frozen
      | o => o).modify 1 fun
      | .cells _ t frozen => .cells (firstD.map DtoV).toArray t frozen
      | o => o).modify 2 fun
      | .cells _ t frozen => .cells (acceptD.map DtoV).toArray t frozen
      | o => o) ++ (kinds.flatMap kdB).toArray }
abbrev laidL : List (String × DataW Unit) := [("unicode/utf8.acceptRanges", Rows.laid_unicode_utf8_acceptRanges), ("library/ill.messages", Rows.laid_library_ill_messages), ("unicode/utf8.first", Rows.laid_unicode_utf8_first)]
theorem wLaid (os : Os) (args : Array Value) : laidMet Tryd.prog laidL ((laidWorld os).forCall (fun _ _ => 0) ⟨#[], args, []⟩).memory :=
  laidMet_of_run' 8 (by kernel_rfl) (by kernel_rfl)
theorem wVars (os : Os) (args : Array Value) : ((laidWorld os).forCall (fun _ _ => 0) ⟨#[], args, []⟩).variablesRefB Tryd.checked.prog = true := by kernel_rfl
theorem wRest (os : Os) (args : Array Value) : (((laidWorld os).forCall (fun _ _ => 0) ⟨#[], args, []⟩).heap.toList.drop Tryd.checked.prog.globals.size).take ((begin Tryd.checked.prog (fun _ _ => 0) default).world.heap.size - Tryd.checked.prog.globals.size) =
      (begin Tryd.checked.prog (fun _ _ => 0) default).world.heap.toList.drop Tryd.checked.prog.globals.size := by kernel_rfl
end Go.Proofs.YticdcapnomageaaDoor

/- What further arguments of the statements on loans between libraries read as. No condition. -/
namespace Go.Il
open Go Go.Ax Go.Proofs
abbrev shTwo : List Cs := [.int .i64, .int .i64, .int .i64, .int .i64, .int .i64, .int .i64, .int .i64, .int .i64, .str, .int .i64, .int .i64, .int .i64, .int .i64, .int .i64, .int .i64, .int .i64, .str]
abbrev shReq : List Cs := [.int .i64, .int .i64, .int .i64, .int .i64, .int .i64]
abbrev shWord : List Cs := [.int .i64, .int .i64, .int .i64, .str]
theorem fitTwo {e : List D} (h : All2 FitC shTwo e) : ∃ x : Two, e = x.ds := by
  cases h with | cons a0 h => cases h with | cons h1 h => cases h with | cons h2 h => cases h with | cons h3 h => cases h with | cons h4 h => cases h with | cons h5 h => cases h with | cons h6 h => cases h with | cons h7 h => cases h with | cons h8 h => cases h with | cons k1 h => cases h with | cons k2 h => cases h with | cons k3 h => cases h with | cons k4 h => cases h with | cons k5 h => cases h with | cons k6 h => cases h with | cons k7 h => cases h with | cons k8 h =>
  cases h
  obtain ⟨n0, rfl, _⟩ := fit_int a0
  obtain ⟨n1, rfl, _⟩ := fit_int h1
  obtain ⟨n2, rfl, _⟩ := fit_int h2
  obtain ⟨n3, rfl, _⟩ := fit_int h3
  obtain ⟨n4, rfl, _⟩ := fit_int h4
  obtain ⟨n5, rfl, _⟩ := fit_int h5
  obtain ⟨n6, rfl, _⟩ := fit_int h6
  obtain ⟨n7, rfl, _⟩ := fit_int h7
  obtain ⟨s8, rfl, _⟩ := fit_str h8
  obtain ⟨m1, rfl, _⟩ := fit_int k1
  obtain ⟨m2, rfl, _⟩ := fit_int k2
  obtain ⟨m3, rfl, _⟩ := fit_int k3
  obtain ⟨m4, rfl, _⟩ := fit_int k4
  obtain ⟨m5, rfl, _⟩ := fit_int k5
  obtain ⟨m6, rfl, _⟩ := fit_int k6
  obtain ⟨m7, rfl, _⟩ := fit_int k7
  obtain ⟨t8, rfl, _⟩ := fit_str k8
  exact ⟨⟨n0, ⟨n1, n2, n3, n4, n5, n6, n7, s8⟩, ⟨m1, m2, m3, m4, m5, m6, m7, t8⟩⟩, rfl⟩
theorem fitReq {e : List D} (h : All2 FitC shReq e) : ∃ x : Req, e = x.ds := by
  cases h with | cons h1 h => cases h with | cons h2 h => cases h with | cons h3 h => cases h with | cons h4 h => cases h with | cons h5 h =>
  cases h
  obtain ⟨n1, rfl, _⟩ := fit_int h1
  obtain ⟨n2, rfl, _⟩ := fit_int h2
  obtain ⟨n3, rfl, _⟩ := fit_int h3
  obtain ⟨n4, rfl, _⟩ := fit_int h4
  obtain ⟨n5, rfl, _⟩ := fit_int h5
  exact ⟨⟨n1, n2, n3, n4, n5⟩, rfl⟩
theorem fitWord {e : List D} (h : All2 FitC shWord e) : ∃ x : Word, e = x.ds := by
  cases h with | cons h1 h => cases h with | cons h2 h => cases h with | cons h3 h => cases h with | cons h4 h =>
  cases h
  obtain ⟨n1, rfl, _⟩ := fit_int h1
  obtain ⟨n2, rfl, _⟩ := fit_int h2
  obtain ⟨n3, rfl, _⟩ := fit_int h3
  obtain ⟨s4, rfl, _⟩ := fit_str h4
  exact ⟨⟨n1, n2, n3, s4⟩, rfl⟩
end Go.Il

/- What the arguments of the statements on partners read as. No condition. -/
namespace Go.Il
open Go Go.Ax Go.Proofs
abbrev shP : List Cs := [.int .i64, .int .i64, .lst shS]
abbrev shNet : List Cs := [.lst shP, .lst shM]
theorem fitSs {x : D} (h : FitC (.lst shS) x) : ∃ l : List Side, x = .lst 9 (l.map Side.ds) := by
  obtain ⟨els, rfl, he⟩ := fit_lst h
  obtain ⟨l, rfl⟩ := exists_list (ds := Side.ds) fun e h => fitS (he e h)
  exact ⟨l, rfl⟩
theorem fitP {e : List D} (h : All2 FitC shP e) : ∃ x : Partner, e = x.ds := by
  cases h with | cons h1 h => cases h with | cons h2 h => cases h with | cons h3 h =>
  cases h
  obtain ⟨n1, rfl, _⟩ := fit_int h1
  obtain ⟨n2, rfl, _⟩ := fit_int h2
  obtain ⟨l, rfl⟩ := fitSs h3
  exact ⟨⟨n1, n2, l⟩, rfl⟩
theorem fitNet {e : List D} (h : All2 FitC shNet e) : ∃ x : Net, e = x.ds := by
  cases h with | cons h1 h => cases h with | cons h2 h =>
  cases h
  obtain ⟨els, rfl, he⟩ := fit_lst h1
  obtain ⟨l, rfl⟩ := exists_list (ds := Partner.ds) fun e h => fitP (he e h)
  obtain ⟨ms, rfl⟩ := fitMs h2
  exact ⟨⟨l, ms⟩, rfl⟩
theorem fitU16s {x : D} (h : FitC (.lst [.int .u16]) x) : ∃ l : List Stp, x = .lst 1 (l.map Stp.ds) := by
  obtain ⟨els, rfl, he⟩ := fit_lst h
  obtain ⟨l, rfl⟩ := exists_list (ds := Stp.ds) fun e h => by
    have := he e h
    cases this with | cons h2 h5 =>
    cases h5
    obtain ⟨n, rfl, hw⟩ := fit_int h2
    have hx : 0 ≤ n ∧ n ≤ 65535 := by simpa [Lit.wf, IntKind.min, IntKind.max, IntKind.signed, IntKind.bits] using hw
    exact ⟨⟨n, hx.1, hx.2⟩, rfl⟩
  exact ⟨l, rfl⟩
end Go.Il
