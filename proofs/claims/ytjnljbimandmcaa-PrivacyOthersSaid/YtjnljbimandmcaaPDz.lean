/- What the arguments of the privacy statements read as. No condition. -/
import Derived.Test.YtjnljbimandmcaaPDa
import Derived.Test.YtjnljbimandmcaaAxX
set_option linter.all false
namespace Go.Pv
open Go Go.Ax
abbrev shEv : List Cs := [.int .i64, .int .i64, .int .i64, .int .i64, .int .i64, .int .i64, .int .i64]
abbrev shTab : List Cs := [.int .i64, .int .i64, .lst [.int .i64]]
theorem fitEv {e : List D} (h : All2 FitC shEv e) : ∃ x : Ev, e = x.ds := by
  cases h with | cons h1 h => cases h with | cons h2 h => cases h with | cons h3 h => cases h with | cons h4 h => cases h with | cons h5 h => cases h with | cons h6 h => cases h with | cons h7 h =>
  cases h
  obtain ⟨n1, rfl, _⟩ := fit_int h1
  obtain ⟨n2, rfl, _⟩ := fit_int h2
  obtain ⟨n3, rfl, _⟩ := fit_int h3
  obtain ⟨n4, rfl, _⟩ := fit_int h4
  obtain ⟨n5, rfl, _⟩ := fit_int h5
  obtain ⟨n6, rfl, _⟩ := fit_int h6
  obtain ⟨n7, rfl, _⟩ := fit_int h7
  exact ⟨⟨n1, n2, n3, n4, n5, n6, n7⟩, rfl⟩
theorem fitEvs {x : D} (h : FitC (.lst shEv) x) : ∃ l : List Ev, x = .lst 7 (l.map Ev.ds) := by
  obtain ⟨els, rfl, he⟩ := fit_lst h
  obtain ⟨l, rfl⟩ := exists_list (ds := Ev.ds) fun e h => fitEv (he e h)
  exact ⟨l, rfl⟩
theorem fitInts {x : D} (h : FitC (.lst [.int .i64]) x) : ∃ l : List Int, x = .lst 1 (l.map iD) := by
  obtain ⟨els, rfl, he⟩ := fit_lst h
  obtain ⟨l, rfl⟩ := exists_list (ds := iD) fun e h => by
    have hh := he e h
    cases hh with | cons h1 h2 => cases h2; obtain ⟨n, rfl, _⟩ := fit_int h1; exact ⟨n, rfl⟩
  exact ⟨l, rfl⟩
theorem fitTab {e : List D} (h : All2 FitC shTab e) : ∃ x : Tab, e = x.ds := by
  cases h with | cons h1 h => cases h with | cons h2 h => cases h with | cons h3 h =>
  cases h
  obtain ⟨n1, rfl, _⟩ := fit_int h1
  obtain ⟨n2, rfl, _⟩ := fit_int h2
  obtain ⟨l, rfl⟩ := fitInts h3
  exact ⟨⟨n1, n2, l⟩, rfl⟩
theorem fit_u16 {x : D} (h : FitC (.int .u16) x) : ∃ n : Nat, x = .int .u16 n ∧ n < 65536 := by
  obtain ⟨n, rfl, hw⟩ := fit_int h
  have hx : 0 ≤ n ∧ n ≤ 65535 := by simpa [Lit.wf, IntKind.min, IntKind.max, IntKind.signed, IntKind.bits] using hw
  obtain ⟨m, rfl⟩ := Int.eq_ofNat_of_zero_le hx.1
  exact ⟨m, rfl, by omega⟩
end Go.Pv
