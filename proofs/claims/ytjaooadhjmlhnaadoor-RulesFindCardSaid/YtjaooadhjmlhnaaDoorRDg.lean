/- The data of the chapter on rules out of what fits their shapes. No condition. -/
import Derived.Test.YtjaooadhjmlhnaaDoorRDf
import Derived.Test.YtjaooadhjmlhnaaDoorAxX
set_option linter.all false
namespace Go.Rl
open Go Go.Ax
abbrev shRule : List Cs := [.str, .bool, .bool, .str, .str, .str, .int .i64]
abbrev shSub : List Cs := [.int .u8, .str]
abbrev shFld : List Cs := [.str, .str, .lst shSub, .int .i64]
abbrev shRec : List Cs := [.int .i64, .int .i64, .int .i64, .str, .lst shFld]
theorem a2c {α β : Type} {R : α → β → Prop} {a : α} {as : List α} {bs : List β} (h : All2 R (a :: as) bs) : ∃ b bs', bs = b :: bs' ∧ R a b ∧ All2 R as bs' := by
  cases h with | cons h t => exact ⟨_, _, rfl, h, t⟩
theorem a2n {α β : Type} {R : α → β → Prop} {bs : List β} (h : All2 R [] bs) : bs = [] := by cases h; rfl
theorem fitRule {e : List D} (h : All2 FitC shRule e) : ∃ x : TagRule, e = x.ds := by
  obtain ⟨_, _, rfl, a, h0⟩ := a2c h
  obtain ⟨_, _, rfl, b, h1⟩ := a2c h0
  obtain ⟨_, _, rfl, c, h2⟩ := a2c h1
  obtain ⟨_, _, rfl, d, h3⟩ := a2c h2
  obtain ⟨_, _, rfl, f, h4⟩ := a2c h3
  obtain ⟨_, _, rfl, g, h5⟩ := a2c h4
  obtain ⟨_, _, rfl, k, h6⟩ := a2c h5
  obtain rfl := a2n h6
  obtain ⟨_, rfl, _⟩ := fit_str a
  obtain ⟨_, rfl⟩ := fit_bool b
  obtain ⟨_, rfl⟩ := fit_bool c
  obtain ⟨_, rfl, _⟩ := fit_str d
  obtain ⟨_, rfl, _⟩ := fit_str f
  obtain ⟨_, rfl, _⟩ := fit_str g
  obtain ⟨_, rfl, _⟩ := fit_i64 k
  exact ⟨⟨_, _, _, _, _, _, _⟩, rfl⟩
theorem fitSub {e : List D} (h : All2 FitC shSub e) : ∃ x : Sub, e = x.ds := by
  obtain ⟨_, _, rfl, a, h0⟩ := a2c h
  obtain ⟨_, _, rfl, b, h1⟩ := a2c h0
  obtain rfl := a2n h1
  obtain ⟨_, rfl⟩ := fit_u8 a
  obtain ⟨_, rfl, _⟩ := fit_str b
  exact ⟨⟨_, _⟩, rfl⟩
theorem fitFld {e : List D} (h : All2 FitC shFld e) : ∃ x : Fld, e = x.ds := by
  obtain ⟨_, _, rfl, a, h0⟩ := a2c h
  obtain ⟨_, _, rfl, b, h1⟩ := a2c h0
  obtain ⟨_, _, rfl, c, h2⟩ := a2c h1
  obtain ⟨_, _, rfl, d, h3⟩ := a2c h2
  obtain rfl := a2n h3
  obtain ⟨_, rfl, _⟩ := fit_str a
  obtain ⟨_, rfl, _⟩ := fit_str b
  obtain ⟨els, rfl, hc⟩ := fit_lst c
  obtain ⟨xs, rfl⟩ := exists_list (ds := Sub.ds) fun e he => fitSub (hc e he)
  obtain ⟨_, rfl, _⟩ := fit_i64 d
  exact ⟨⟨_, _, _, _⟩, rfl⟩
theorem fitRec {e : List D} (h : All2 FitC shRec e) : ∃ x : Rec, e = x.ds := by
  obtain ⟨_, _, rfl, a, h0⟩ := a2c h
  obtain ⟨_, _, rfl, b, h1⟩ := a2c h0
  obtain ⟨_, _, rfl, c, h2⟩ := a2c h1
  obtain ⟨_, _, rfl, d, h3⟩ := a2c h2
  obtain ⟨_, _, rfl, f, h4⟩ := a2c h3
  obtain rfl := a2n h4
  obtain ⟨_, rfl, _⟩ := fit_i64 a
  obtain ⟨_, rfl, _⟩ := fit_i64 b
  obtain ⟨_, rfl, _⟩ := fit_i64 c
  obtain ⟨_, rfl, _⟩ := fit_str d
  obtain ⟨els, rfl, hc⟩ := fit_lst f
  obtain ⟨xs, rfl⟩ := exists_list (ds := Fld.ds) fun e he => fitFld (hc e he)
  exact ⟨⟨_, _, _, _, _⟩, rfl⟩
theorem fitRules {x : D} (h : FitC (.lst shRule) x) : ∃ l : List TagRule, x = .lst 7 (l.map TagRule.ds) := by
  obtain ⟨els, rfl, hc⟩ := fit_lst h
  obtain ⟨xs, rfl⟩ := exists_list (ds := TagRule.ds) fun e he => fitRule (hc e he)
  exact ⟨xs, rfl⟩
theorem stdFlat : (stdL.map TagRule.ds).flatten.all D.flat = true := by decide
end Go.Rl
