/- What the arguments of the statements on formats read as. No condition. -/
import Derived.Test.YtimehiamdikinaaFDa
import Derived.Test.YtimehiamdikinaaAxX
set_option linter.all false
namespace Go.Fm
open Go Go.Ax
abbrev shF : List Cs := [.int .i64, .int .i64, .int .i64, .int .i64, .str, .str, .lst [.int .i64]]
theorem fitInts {x : D} (h : FitC (.lst [.int .i64]) x) : ∃ l : List Int, x = .lst 1 (l.map iD) := by
  obtain ⟨els, rfl, he⟩ := fit_lst h
  obtain ⟨l, rfl⟩ := exists_list (ds := iD) fun e h => by
    have hh := he e h
    cases hh with | cons h1 h2 => cases h2; obtain ⟨n, rfl, _⟩ := fit_int h1; exact ⟨n, rfl⟩
  exact ⟨l, rfl⟩
theorem fitF {e : List D} (h : All2 FitC shF e) : ∃ x : Fmt, e = x.ds := by
  cases h with | cons h1 h => cases h with | cons h2 h => cases h with | cons h3 h => cases h with | cons h4 h => cases h with | cons h5 h => cases h with | cons h6 h => cases h with | cons h7 h =>
  cases h
  obtain ⟨n1, rfl, _⟩ := fit_int h1
  obtain ⟨n2, rfl, _⟩ := fit_int h2
  obtain ⟨n3, rfl, _⟩ := fit_int h3
  obtain ⟨n4, rfl, _⟩ := fit_int h4
  obtain ⟨s5, rfl, _⟩ := fit_str h5
  obtain ⟨s6, rfl, _⟩ := fit_str h6
  obtain ⟨l7, rfl⟩ := fitInts h7
  exact ⟨⟨n1, n2, n3, n4, s5, s6, l7⟩, rfl⟩
theorem fitFs {x : D} (h : FitC (.lst shF) x) : ∃ l : List Fmt, x = .lst 7 (l.map Fmt.ds) := by
  obtain ⟨els, rfl, he⟩ := fit_lst h
  obtain ⟨l, rfl⟩ := exists_list (ds := Fmt.ds) fun e h => fitF (he e h)
  exact ⟨l, rfl⟩
end Go.Fm
