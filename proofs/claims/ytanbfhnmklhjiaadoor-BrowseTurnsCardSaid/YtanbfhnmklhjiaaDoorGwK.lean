/- Part of a proof about this program; no condition of its own. -/
import Derived.Test.YtanbfhnmklhjiaaDoorYBWq
import Derived.Lib.ItoaLen
import Derived.Test.YtanbfhnmklhjiaaDoorGwH
import Derived.Test.YtanbfhnmklhjiaaDoorGfA
import Derived.Test.YtanbfhnmklhjiaaDoorYBWl
import Derived.Test.YtanbfhnmklhjiaaDoorGxD
set_option linter.all false
/- Find, Page and Print of browse lists, and the guard of texts. No condition. -/
namespace Go.Fc
open Go Go.Ax Go.Or Go.Tx
/-- The first place whose heading does not come before a text. -/
def findG (c : Str → Str → Int) (s : Str) : Nat → List Br → Nat
  | k, [] => k
  | k, b :: r => if 0 ≤ c b.hd s then k else findG c s (k + 1) r
def findF (c : Str → Str → Int) (l : List Br) (s : Str) : Nat := findG c s 0 l
theorem findG_step {c : Str → Str → Int} {s : Str} {l : List Br} {k : Nat} (h : k < l.length) : findG c s k (l.drop k) = if 0 ≤ c l[k].hd s then k else findG c s (k + 1) (l.drop (k + 1)) := by
  rw [drop_cons h]; rfl
theorem findG_end {c : Str → Str → Int} {s : Str} {l : List Br} {k : Nat} (h : ¬ k < l.length) : findG c s k (l.drop k) = k := by
  rw [List.drop_eq_nil_of_le (by omega)]; rfl
def textsF (l : List Br) (s : Str) : Bool := decide (l.length ≤ 60) && (decide (s.length ≤ 300) && (validF s && l.all fun b => decide (b.hd.length ≤ 300) && validF b.hd))
def condP (at_ b a : Int) (k : Nat) : Bool := decide ((k : Int) = at_) || (decide ((k : Int) < at_ ∧ at_ - k ≤ imax b 0) || decide (at_ < (k : Int) ∧ k - at_ ≤ imax a 0))
def pgN (c : Nat → Bool) (l : List Br) : Nat → List Br
  | 0 => []
  | k + 1 => pgN c l k ++ (if c k = true then (l.drop k).take 1 else [])
def pageF (l : List Br) (at_ b a : Int) : List Br := pgN (condP at_ b a) l l.length
theorem pgN_len (c : Nat → Bool) (l : List Br) : ∀ k, (pgN c l k).length ≤ k
  | 0 => Nat.le_refl _
  | k + 1 => by
    have := pgN_len c l k
    unfold pgN
    rw [List.length_append]
    split
    · rw [List.length_take]; omega
    · simp; omega
theorem pgN_next {c : Nat → Bool} {l : List Br} {k : Nat} (h : k < l.length) : pgN c l (k + 1) = if c k = true then pgN c l k ++ [l[k]] else pgN c l k := by
  show pgN c l k ++ _ = _
  split
  · rw [drop_cons h]; rfl
  · simp
def printF (b : Br) : Str := if b.ref ≠ [] then b.hd ++ [58, 32, 115, 101, 101, 32] ++ b.ref else b.hd ++ [32, 40] ++ Lib.itoa b.cnt ++ [41]
end Go.Fc
namespace Go.Proofs
open Go Go.Ax Go.Tx Go.Lib Go.RowKit Go.Fc
set_option maxRecDepth 100000
set_option maxHeartbeats 0
variable {Γ : List (Nat × List D)}
theorem c13 (l : List Br) (lang s : Str) (hl : l.length ≤ 2000000) (hs : s.length ≤ 1000000) (hh : ∀ b ∈ l, b.hd.length ≤ 1000000) : AFn Tryd.prog Γ 13 [.c (.bor 3 (l.map Br.ds)), .c (.d (.str lang)), .c (.d (.str s))] [.d (.int .i64 (findF (cmpK lang) l s))] := by
  generalize hR : findF (cmpK lang) l s = R
  unfold findF at hR
  refine AFn.vc [] Tryd.func13 rfl Tryd.mixed (by kernel_rfl) Tryd.ntmps13 Tryd.results13 (by simp) ?_
  push_cast
  refine LoopV.cnt Tryd.mixed [0, 1, 2, 9, 10] l.length (fun k => [(11, .c (.d (.int .i64 k)))]) (fun k => findG (cmpK lang) s k (l.drop k) = R) hR ?_
  intro k hk hinv
  push_cast
  refine ⟨fun h => ?_, fun h => ?_⟩
  · have hlt : k < l.length := by omega
    rw [findG_step hlt] at hinv
    refine ⟨hlt, ?_⟩
    refine CallL.q (c21 lang l[k].hd s (hh _ (List.getElem_mem hlt)) hs) ?_
    push_cast
    refine ⟨fun e => ?_, fun e => ⟨by omega, hlt, ?_⟩⟩
    · rw [if_pos e] at hinv; rw [hinv]
    · rw [if_neg (by omega)] at hinv; exact hinv
  · rw [findG_end (by omega)] at hinv
    omega
theorem c10 (hΓ : (2, powD) ∈ Γ) (b : Br) (h1 : b.hd.length ≤ 1000000) (h2 : b.ref.length ≤ 1000000) (h3 : -9223372036854775808 ≤ b.cnt) (h4 : b.cnt ≤ 9223372036854775807) : AFn Tryd.prog Γ 10 [.agg (b.ds.map C.d)] [.d (.str (printF b))] := by
  refine AFn.vc [] Tryd.func10 rfl Tryd.mixed (by kernel_rfl) Tryd.ntmps10 Tryd.results10 (by simp) ?_
  push_cast
  unfold printF
  refine ⟨fun e => ⟨by omega, by omega, by rw [if_pos e]⟩, fun e => ⟨by omega, ?_⟩⟩
  refine CallX.q (c15 hΓ b.cnt h3 h4) ?_
  push_cast
  have hi := itoa_length_le b.cnt h3 h4
  exact ⟨by omega, by omega, by rw [if_neg (by simp [e])]⟩
theorem c8 (l : List Br) (at_ b a : Int) (hl : l.length ≤ 2000000) (h0 : 0 ≤ at_) (h1 : at_ ≤ 9223372036854775807) (h2 : b ≤ 9223372036854775807) (h3 : a ≤ 9223372036854775807) : AFn Tryd.prog Γ 8 [.c (.bor 3 (l.map Br.ds)), .c (.d (.int .i64 at_)), .c (.d (.int .i64 b)), .c (.d (.int .i64 a))] [.d (.lst 3 ((pageF l at_ b a).map Br.ds))] := by
  refine AFn.vc [] Tryd.func8 rfl Tryd.mixed (by kernel_rfl) Tryd.ntmps8 Tryd.results8 (by simp) ?_
  push_cast
  refine LoopV.nilrow 9 29 3 ?_
  push_cast
  refine LoopV.cntH Tryd.mixed [1, 2, 3, 16, 17] l.length (fun k => [(9, .c (.own 0 (pgN (condP at_ b a) l k).length)), (18, .c (.d (.int .i64 k)))]) (fun k => [.row 29 3 ((pgN (condP at_ b a) l k).map Br.ds) (pgN (condP at_ b a) l k).length]) (fun _ => True) trivial ?_ (by push_cast; exact ⟨rfl, rfl, rfl⟩)
  intro k hk _
  push_cast
  refine ⟨fun h => ?_, fun h => ?_⟩
  · have hlt : k < l.length := by omega
    have m1 : 0 ≤ imax b 0 ∧ imax b 0 ≤ 9223372036854775807 := by unfold imax; split <;> omega
    have m2 : 0 ≤ imax a 0 ∧ imax a 0 ≤ 9223372036854775807 := by unfold imax; split <;> omega
    have hn := pgN_next (c := condP at_ b a) hlt
    have hb := pgN_len (condP at_ b a) l k
    have hc : condP at_ b a k = true ↔ ((k : Int) = at_ ∨ ((k : Int) < at_ ∧ at_ - k ≤ imax b 0) ∨ (at_ < (k : Int) ∧ k - at_ ≤ imax a 0)) := by unfold condP; simp
    have yes : ((k : Int) = at_ ∨ ((k : Int) < at_ ∧ at_ - k ≤ imax b 0) ∨ (at_ < (k : Int) ∧ k - at_ ≤ imax a 0)) → pgN (condP at_ b a) l (k + 1) = pgN (condP at_ b a) l k ++ [l[k]] := fun q => by rw [hn, if_pos (hc.2 q)]
    have no : ¬ ((k : Int) = at_ ∨ ((k : Int) < at_ ∧ at_ - k ≤ imax b 0) ∨ (at_ < (k : Int) ∧ k - at_ ≤ imax a 0)) → pgN (condP at_ b a) l (k + 1) = pgN (condP at_ b a) l k := fun q => by rw [hn, if_neg (fun z => q (hc.1 z))]
    refine ⟨hlt, ?_⟩
    repeat' (first | (intro _) | (refine And.intro ?_ ?_))
    all_goals first
      | omega
      | (rw [yes (by omega)]; simp [Br.ds]; done)
      | (rw [no (by omega)]; done)
      | trace_state
  · unfold pageF
    rw [show k = l.length by omega]
end Go.Proofs

/- The guard of the statements on browse lists. No condition. -/
namespace Go.Fc
open Go Go.Ax Go.Or Go.Tx
def validB (l : List Rec) (auths : List Au) : Bool := smallRs l 12 && (decide (auths.length ≤ 64) && (decide (rightA auths = 0) && l.all fun r => decide (r.fields.length ≤ 20) && decide (rightR r = 0)))
/-- What a walk wants of an authority file's sizes. -/
structure AuSm (l : List Au) : Prop where
  see : ∀ a ∈ l, a.see.length ≤ 2000000
  hd : ∀ a ∈ l, ∀ s ∈ headsA a, s.length ≤ 2000000
end Go.Fc
namespace Go.Proofs
open Go Go.Ax Go.Tx Go.Lib Go.RowKit Go.Fc
set_option maxRecDepth 100000
set_option maxHeartbeats 0
variable {Γ : List (Nat × List D)}
def dogsF : Fld := ⟨[54, 53, 48], [32, 48], [⟨97, [68, 111, 103, 115]⟩], 0⟩
def catsF : Fld := ⟨[54, 53, 48], [32, 48], [⟨97, [67, 97, 116, 115]⟩], 0⟩
def exL : List Rec := [⟨1, 3, 1, [101, 110, 103], [dogsF]⟩, ⟨2, 3, 1, [101, 110, 103], [dogsF, catsF]⟩]
def exA : List Au := [⟨1, 3, [67, 97, 116, 115], [[70, 101, 108, 105, 110, 101, 115]], []⟩]
def exB : List Br := [⟨[67, 97, 116, 115], [], 1⟩, ⟨[68, 111, 103, 115], [], 2⟩, ⟨[70, 101, 108, 105, 110, 101, 115], [67, 97, 116, 115], 1⟩]
theorem ex_build : buildF headH exL exA 3 [101, 110, 103] = exB := by kernel_rfl
theorem ex_find1 : findF (cmpK [101, 110, 103]) exB [100] = 1 := by kernel_rfl
theorem ex_find2 : findF (cmpK [101, 110, 103]) exB [122] = 3 := by kernel_rfl
theorem ex_page1 : (pageF exB 1 1 0).length = 2 := by kernel_rfl
theorem ex_page2 : (pageF exB 5 3 0).length = 1 := by kernel_rfl
theorem ex_hok : ∀ r ∈ exL, ∀ f ∈ r.fields, f.hok := by
  have h1 : dogsF.hok := ⟨by decide, by decide⟩
  have h2 : catsF.hok := ⟨by decide, by decide⟩
  intro r hr f hf
  simp only [exL, List.mem_cons, List.not_mem_nil, or_false] at hr
  rcases hr with rfl | rfl
  · simp only [List.mem_cons, List.not_mem_nil, or_false] at hf
    subst hf; exact h1
  · simp only [List.mem_cons, List.not_mem_nil, or_false] at hf
    rcases hf with rfl | rfl
    · exact h1
    · exact h2
theorem ArgOk.nl {pm : Pm} {h : List LB} {x y : D} (hn : Nl x y) : ArgOk pm h (.c (.d x)) (.c (.d y)) := fun _ _ _ _ _ s hv => Dr.mono s.le (hn.dr hv)
theorem c6 (hΓ : (0, stdD) ∈ Γ) (hp : (2, powD) ∈ Γ) : AFn Tryd.prog Γ 6 [] [.d (.bool true)] := by
  refine AFn.vc [] Tryd.func6 rfl Tryd.mixed (by kernel_rfl) Tryd.ntmps6 Tryd.results6 (by simp) ?_
  push_cast
  have h18 := c12 hΓ exL exA 3 [101, 110, 103] (by decide) (by decide) ex_hok (by decide) (by decide) (by decide) (by decide) (by decide)
  rw [ex_build] at h18
  refine CallL.own h18 ?_ (.cons ArgOk.d (.cons (ArgOk.nl (Nl.rows (.cons (.cons (.refl _) (.cons (.refl _) (.cons (.refl _) (.cons (.refl _) (.cons (.nil _) .nil))))) .nil))) (.cons ArgOk.d (.cons ArgOk.d .nil))))
  push_cast [exB]
  have p0 := c10 hp ⟨[67, 97, 116, 115], [], 1⟩ (by decide) (by decide) (by decide) (by decide)
  rw [show printF ⟨[67, 97, 116, 115], [], 1⟩ = [67, 97, 116, 115, 32, 40, 49, 41] by kernel_rfl] at p0
  refine CallL.q p0 ?_
  push_cast
  have p1 := c10 hp ⟨[68, 111, 103, 115], [], 2⟩ (by decide) (by decide) (by decide) (by decide)
  rw [show printF ⟨[68, 111, 103, 115], [], 2⟩ = [68, 111, 103, 115, 32, 40, 50, 41] by kernel_rfl] at p1
  refine CallL.q p1 ?_
  push_cast
  have p2 := c10 hp ⟨[70, 101, 108, 105, 110, 101, 115], [67, 97, 116, 115], 1⟩ (by decide) (by decide) (by decide) (by decide)
  rw [show printF ⟨[70, 101, 108, 105, 110, 101, 115], [67, 97, 116, 115], 1⟩ = [70, 101, 108, 105, 110, 101, 115, 58, 32, 115, 101, 101, 32, 67, 97, 116, 115] by kernel_rfl] at p2
  refine CallL.q p2 ?_
  push_cast
  have f1 := c13 (Γ := Γ) exB [101, 110, 103] [100] (by decide) (by decide) (by decide)
  rw [ex_find1] at f1
  refine CallL.q f1 ?_
  push_cast
  have f2 := c13 (Γ := Γ) exB [101, 110, 103] [122] (by decide) (by decide) (by decide)
  rw [ex_find2] at f2
  refine CallL.q f2 ?_
  push_cast
  have g1 := c8 (Γ := Γ) exB 1 1 0 (by decide) (by decide) (by decide) (by decide) (by decide)
  have g1l := ex_page1
  generalize pageF exB 1 1 0 = P1 at *
  refine CallL.q g1 ?_
  push_cast
  refine ⟨fun _ => ?_, fun e => absurd g1l (by omega)⟩
  have g2 := c8 (Γ := Γ) exB 5 3 0 (by decide) (by decide) (by decide) (by decide) (by decide)
  have g2l := ex_page2
  generalize pageF exB 5 3 0 = P2 at *
  refine CallL.q g2 ?_
  push_cast
  omega
end Go.Proofs
