/- Part of a proof about this program; no condition of its own. -/
import Derived.Test.YticdcapnomageaaDoorILz
import Derived.Test.YticdcapnomageaaDoorIWv
set_option linter.all false
/- What further arguments of the statements on loans between libraries read as. No condition. -/
namespace Go.Il
open Go Go.Ax Go.Proofs
abbrev shTwo : List Cs := [.int .i64, .int .i64, .int .i64, .int .i64, .int .i64, .int .i64, .int .i64, .int .i64, .str, .int .i64, .int .i64, .int .i64, .int .i64, .int .i64, .int .i64, .int .i64, .str]
abbrev shReq : List Cs := [.int .i64, .int .i64, .int .i64, .int .i64, .int .i64]
abbrev shWord : List Cs := [.int .i64, .int .i64, .int .i64, .str]
theorem fitTwo {e : List D} (h : All2 FitC shTwo e) : ∃ x : Two, e = x.ds := by
  cases h with | cons a0 h => cases h with | cons h1 h => cases h with | cons h2 h => cases h with | cons h3 h => cases h with | cons h4 h => cases h with | cons h5 h => cases h with | cons h6 h => cases h with | cons h7 h => cases h with | cons h8 h => cases h with | cons k1 h => cases h with | cons k2 h => cases h with | cons k3 h => cases h with | cons k4 h => cases h with | cons k5 h => cases h with | cons k6 h => cases h with | cons k7 h => cases h with | cons k8 h =>
  cases h
  obtain ⟨n0, rfl, _⟩ := fit_int a0
  obtain ⟨n1, rfl, _⟩ := fit_int h1
  obtain ⟨n2, rfl, _⟩ := fit_int h2
  obtain ⟨n3, rfl, _⟩ := fit_int h3
  obtain ⟨n4, rfl, _⟩ := fit_int h4
  obtain ⟨n5, rfl, _⟩ := fit_int h5
  obtain ⟨n6, rfl, _⟩ := fit_int h6
  obtain ⟨n7, rfl, _⟩ := fit_int h7
  obtain ⟨s8, rfl, _⟩ := fit_str h8
  obtain ⟨m1, rfl, _⟩ := fit_int k1
  obtain ⟨m2, rfl, _⟩ := fit_int k2
  obtain ⟨m3, rfl, _⟩ := fit_int k3
  obtain ⟨m4, rfl, _⟩ := fit_int k4
  obtain ⟨m5, rfl, _⟩ := fit_int k5
  obtain ⟨m6, rfl, _⟩ := fit_int k6
  obtain ⟨m7, rfl, _⟩ := fit_int k7
  obtain ⟨t8, rfl, _⟩ := fit_str k8
  exact ⟨⟨n0, ⟨n1, n2, n3, n4, n5, n6, n7, s8⟩, ⟨m1, m2, m3, m4, m5, m6, m7, t8⟩⟩, rfl⟩
theorem fitReq {e : List D} (h : All2 FitC shReq e) : ∃ x : Req, e = x.ds := by
  cases h with | cons h1 h => cases h with | cons h2 h => cases h with | cons h3 h => cases h with | cons h4 h => cases h with | cons h5 h =>
  cases h
  obtain ⟨n1, rfl, _⟩ := fit_int h1
  obtain ⟨n2, rfl, _⟩ := fit_int h2
  obtain ⟨n3, rfl, _⟩ := fit_int h3
  obtain ⟨n4, rfl, _⟩ := fit_int h4
  obtain ⟨n5, rfl, _⟩ := fit_int h5
  exact ⟨⟨n1, n2, n3, n4, n5⟩, rfl⟩
theorem fitWord {e : List D} (h : All2 FitC shWord e) : ∃ x : Word, e = x.ds := by
  cases h with | cons h1 h => cases h with | cons h2 h => cases h with | cons h3 h => cases h with | cons h4 h =>
  cases h
  obtain ⟨n1, rfl, _⟩ := fit_int h1
  obtain ⟨n2, rfl, _⟩ := fit_int h2
  obtain ⟨n3, rfl, _⟩ := fit_int h3
  obtain ⟨s4, rfl, _⟩ := fit_str h4
  exact ⟨⟨n1, n2, n3, s4⟩, rfl⟩
end Go.Il
