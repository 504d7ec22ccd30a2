/- Part of a proof about this program; no condition of its own. -/
import Derived.Test.YtanbfhnmklhjiaaGreatDoorZLw
import Derived.Test.YtanbfhnmklhjiaaGreatDoorGzC
import Derived.Test.YtanbfhnmklhjiaaGreatDoorGxB
set_option linter.all false
/- What buckets read as. No condition. -/
namespace Go.Fc
open Go Go.Ax
theorem fitBkF {e : List D} (h : All2 FitC [.str, .int .i64] e) : ∃ b : Bk, e = b.ds ∧ True := by
  cases h with | cons h1 h => cases h with | cons h2 h =>
  cases h
  obtain ⟨l, rfl, _⟩ := fit_str h1
  obtain ⟨n, rfl, _⟩ := fit_i64 h2
  exact ⟨⟨l, n⟩, rfl, trivial⟩
theorem fitBksF {x : D} (h : FitC (.lst [.str, .int .i64]) x) : ∃ l : List Bk, x = .lst 2 (l.map Bk.ds) ∧ True := by
  obtain ⟨els, rfl, he⟩ := fit_lst h
  obtain ⟨l, rfl, _⟩ := exists_ok (ds := Bk.ds) (p := fun _ => True) fun e h => fitBkF (he e h)
  exact ⟨l, rfl, trivial⟩
theorem fitBk {e : List D} (h : All2 (FitB KK) [.str, .int .i64] e) : ∃ b : Bk, e = b.ds ∧ True := by
  cases h with | cons h1 h => cases h with | cons h2 h =>
  cases h
  obtain ⟨l, rfl, _⟩ := fitB_str h1
  obtain ⟨n, rfl, _⟩ := fitB_i64 h2
  exact ⟨⟨l, n⟩, rfl, trivial⟩
theorem fitBks {x : D} (h : FitB KK (.lst [.str, .int .i64]) x) : ∃ l : List Bk, x = .lst 2 (l.map Bk.ds) ∧ True := by
  obtain ⟨els, rfl, _, he⟩ := fitB_lst h
  obtain ⟨l, rfl, _⟩ := exists_ok (ds := Bk.ds) (p := fun _ => True) fun e h => fitBk (he e h)
  exact ⟨l, rfl, trivial⟩
end Go.Fc
