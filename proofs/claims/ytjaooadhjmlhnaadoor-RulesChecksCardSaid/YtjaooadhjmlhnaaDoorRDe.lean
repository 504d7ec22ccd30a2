/- The standard rules, and what else the functions of the chapter on rules compute, in plain Lean. No condition. -/
import Derived.Test.YtjaooadhjmlhnaaDoorRDd
set_option linter.all false
namespace Go.Rl
open Go Go.Ax
def stdL : List TagRule := [
  ⟨[48, 50, 48], true, false, [97, 122], [], [], 0⟩,
  ⟨[48, 50, 50], true, false, [97], [], [], 0⟩,
  ⟨[48, 52, 49], true, false, [97], [], [], 0⟩,
  ⟨[49, 48, 48], false, false, [52, 97, 100], [97], [97], 1⟩,
  ⟨[49, 49, 48], false, false, [97, 98], [97], [97], 2⟩,
  ⟨[50, 52, 53], false, true, [97, 98, 99, 110, 112], [97, 99], [97], 0⟩,
  ⟨[50, 52, 54], true, false, [97, 98], [97], [97], 0⟩,
  ⟨[50, 53, 48], false, false, [97, 98], [], [], 0⟩,
  ⟨[50, 54, 48], true, false, [97, 98, 99], [], [], 0⟩,
  ⟨[50, 54, 52], true, false, [97, 98, 99], [], [], 0⟩,
  ⟨[51, 48, 48], true, false, [97, 98, 99], [], [], 0⟩,
  ⟨[52, 52, 48], true, false, [97, 118], [97], [97], 4⟩,
  ⟨[52, 57, 48], true, false, [97, 118], [97], [97], 0⟩,
  ⟨[53, 48, 48], true, false, [97], [97], [97], 0⟩,
  ⟨[53, 50, 48], true, false, [97], [], [], 0⟩,
  ⟨[54, 48, 48], true, false, [97, 100, 120, 121, 122], [97], [97], 1⟩,
  ⟨[54, 49, 48], true, false, [97, 98, 120, 121, 122], [97], [97], 2⟩,
  ⟨[54, 53, 48], true, false, [97, 120, 121, 122], [97], [97], 3⟩,
  ⟨[54, 53, 49], true, false, [97, 120, 121, 122], [97], [97], 3⟩,
  ⟨[55, 48, 48], true, false, [52, 97, 100], [97], [97], 1⟩,
  ⟨[55, 49, 48], true, false, [97, 98], [97], [97], 2⟩,
  ⟨[55, 55, 54], true, false, [116, 119], [], [], 0⟩,
  ⟨[55, 56, 55], true, false, [116, 119], [], [], 0⟩,
  ⟨[56, 51, 48], true, false, [97, 118], [97], [97], 4⟩,
  ⟨[56, 53, 54], true, false, [117, 122], [], [], 0⟩]
def okRB (x : TagRule) : Bool := decide (x.tag.length ≤ 100 ∧ x.codes.length ≤ 100 ∧ x.once.length ≤ 100 ∧ x.needs.length ≤ 100)
def okFB (f : Fld) : Bool := decide (f.subs.length ≤ 60 ∧ f.tag.length ≤ 100)
def smallB (l : List TagRule) (fs : List Fld) : Bool := decide (l.length ≤ 60) && (decide (fs.length ≤ 64) && (l.all okRB && fs.all okFB))
theorem okL_of {l : List TagRule} {fs : List Fld} (h : smallB l fs = true) : OkL l := by
  simp only [smallB, Bool.and_eq_true, decide_eq_true_eq, List.all_eq_true, okRB] at h
  exact ⟨h.1, fun x hx => ⟨(h.2.2.1 x hx).1, (h.2.2.1 x hx).2.1, (h.2.2.1 x hx).2.2.1, (h.2.2.1 x hx).2.2.2⟩⟩
theorem okS_of {l : List TagRule} {fs : List Fld} (h : smallB l fs = true) : OkS fs := by
  simp only [smallB, Bool.and_eq_true, decide_eq_true_eq, List.all_eq_true, okFB] at h
  exact ⟨h.2.1, fun x hx => ⟨(h.2.2.2 x hx).1, (h.2.2.2 x hx).2⟩⟩
def within (a t : Str) : Bool := t.all fun c => a.any (· == c)
/-- The rule at a place. -/
def ruleAt (l : List TagRule) (k : Nat) : TagRule := l.getD k noRule
def errAt (l : List TagRule) (k : Nat) : Int :=
  let t := ruleAt l k
  if !tagB t.tag then 6
  else if decide (0 < k) && (Op.bytesLess t.tag (ruleAt l (k - 1)).tag || decide (t.tag = (ruleAt l (k - 1)).tag)) then 7
  else if decide (t.codes = []) || (!codesB t.codes || (!codesB t.once || (!codesB t.needs || (!within t.codes t.once || !within t.codes t.needs)))) then 3
  else if decide (t.auth < 0) || decide (4 < t.auth) then 1 else 0
def rightR (l : List TagRule) : Int := if 32 < l.length then 13 else (((List.range l.length).find? fun k => decide (errAt l k ≠ 0)).map (errAt l)).getD 0
theorem right_at {l : List TagRule} {k : Nat} (hl : l.length ≤ 32) (hk : k < l.length) (h : ∀ j, j < k → errAt l j = 0) (hne : errAt l k ≠ 0) : rightR l = errAt l k := by
  unfold rightR; rw [if_neg (by omega)]
  have : (List.range l.length).find? (fun k => decide (errAt l k ≠ 0)) = some k := by
    rw [List.find?_range_eq_some]
    exact ⟨by simpa using hne, List.mem_range.2 hk, fun j hj => by simpa using h j hj⟩
  rw [this]; rfl
theorem right_ok {l : List TagRule} (hl : l.length ≤ 32) (h : ∀ j, j < l.length → errAt l j = 0) : rightR l = 0 := by
  unfold rightR; rw [if_neg (by omega)]
  have : (List.range l.length).find? (fun k => decide (errAt l k ≠ 0)) = none := by
    rw [List.find?_range_eq_none]
    intro j hj; simpa using h j hj
  rw [this]; rfl
def oneR (t codes : Str) : Rec := ⟨1, 3, 1, [101, 110, 103], [⟨t, [32, 32], codes.map fun c => ⟨c, [120]⟩, 0⟩]⟩
def ownQ (p : Problem) (i : Int) : Bool := decide (p.kind ≠ 1) && (decide (p.kind ≠ 3) && decide (p.index = i))
def ownP (l : List Problem) (i : Int) : List Problem := (l.filter (ownQ · i)).map fun p => ⟨p.kind, 0, p.tag, p.code⟩
theorem own_snoc (l : List Problem) (p : Problem) (i : Int) : ownP (l ++ [p]) i = ownP l i ++ if ownQ p i then [⟨p.kind, 0, p.tag, p.code⟩] else [] := by
  unfold ownP; rw [List.filter_append, List.map_append]
  cases h : ownQ p i <;> simp [h]
theorem own_len (l : List Problem) (i : Int) : (ownP l i).length ≤ l.length := by unfold ownP; rw [List.length_map]; exact List.length_filter_le _ _
theorem getk {l : List TagRule} {k : Nat} (hk : k < l.length) : ruleAt l k = l[k] := by simp [ruleAt, hk]
theorem getk1 {l : List TagRule} {k : Nat} (hk : ((k : Int) - 1).toNat < l.length) : ruleAt l (k - 1) = l[((k : Int) - 1).toNat] := by
  have : ((k : Int) - 1).toNat = k - 1 := by omega
  simp only [this] at hk ⊢; simp [ruleAt, hk]
theorem own_app (a b : List Problem) (i : Int) : ownP (a ++ b) i = ownP a i ++ ownP b i := by unfold ownP; rw [List.filter_append, List.map_append]
theorem own_must (fs : List Fld) (i : Int) : ∀ l, ownP (mustP fs l) i = []
  | [] => rfl
  | x :: r => by
    rw [mustP, own_app, own_must fs i r]
    split <;> rfl
theorem own_sub (x : TagRule) (t : Str) (i j : Int) : ∀ l seen, ownP (subP x t i seen l) j = if i = j then ownP (subP x t 0 seen l) 0 else []
  | [], _ => by simp [subP, ownP]
  | s :: r, seen => by
    rw [subP, subP, own_app, own_app, own_sub x t i j r (seen ++ [s])]
    by_cases h : i = j
    · subst h; simp only [if_true]; congr 1
      split <;> (try split) <;> simp [ownP, ownQ]
    · simp only [if_neg h, List.append_nil]
      split <;> (try split) <;> simp [ownP, ownQ, h]
theorem own_need (t : Str) (i j : Int) (subs : List Sub) : ∀ l, ownP (needP t i subs l) j = if i = j then ownP (needP t 0 subs l) 0 else []
  | [] => by simp [needP, ownP]
  | c :: r => by
    rw [needP, needP, own_app, own_app, own_need t i j subs r]
    by_cases h : i = j
    · subst h; simp only [if_true]; congr 1
      split <;> simp [ownP, ownQ]
    · simp only [if_neg h, List.append_nil]
      split <;> simp [ownP, ownQ, h]
theorem own_auth (x : TagRule) (f : Fld) (i j : Int) : ownP (authP x f i) j = if i = j then ownP (authP x f 0) 0 else [] := by
  unfold authP
  by_cases h : i = j
  · subst h; simp only [if_true]; split <;> simp [ownP, ownQ]
  · simp only [if_neg h]; split <;> simp [ownP, ownQ, h]
theorem own_rep (x : TagRule) (f : Fld) (i j : Int) (seen : List Fld) : ownP (repP x f i seen) j = [] := by
  unfold repP; split <;> simp [ownP, ownQ]
theorem own_one (l : List TagRule) (seen : List Fld) (i j : Nat) (f : Fld) : ownP (oneP l seen i f) j = if i = j then ownP (oneP l [] 0 f) 0 else [] := by
  have hij : ((i : Int) = (j : Int)) = (i = j) := by rw [Int.ofNat_inj]
  unfold oneP fieldP
  by_cases h : (findR l f.tag).isSome = true
  · simp only [h, if_true, own_app, own_rep, own_sub _ _ i, own_need _ i, own_auth _ _ i, List.nil_append, hij]
    have e0 : ((0 : Nat) : Int) = 0 := rfl
    simp only [e0]
    by_cases hc : i = j <;> simp [hc]
  · simp only [h]
    by_cases hc : i = j
    · subst hc; simp [ownP, ownQ]
    · simp [ownP, ownQ, hc]; omega
theorem own_flds (l : List TagRule) (j : Nat) : ∀ fs seen, ownP (fldsP l seen fs) j = if h : seen.length ≤ j ∧ j - seen.length < fs.length then ownP (oneP l [] 0 (fs[j - seen.length]'h.2)) 0 else []
  | [], seen => by simp [fldsP, ownP]
  | f :: r, seen => by
    rw [fldsP, own_app, own_one, own_flds l j r (seen ++ [f])]
    simp only [List.length_append, List.length_cons, List.length_nil]
    by_cases h1 : seen.length = j
    · subst h1; simp; omega
    · rw [if_neg h1, List.nil_append]
      by_cases h2 : seen.length + 1 ≤ j ∧ j - (seen.length + 1) < r.length
      · have h3 : seen.length ≤ j ∧ j - seen.length < r.length + 1 := by omega
        rw [dif_pos (by simpa using h2), dif_pos h3]
        congr 2
        have : j - seen.length = (j - (seen.length + 1)) + 1 := by omega
        simp [this]
      · rw [dif_neg (by simpa using h2), dif_neg (by simp; omega)]
theorem own_law (l : List TagRule) (fs : List Fld) {k : Nat} (hk : k < fs.length) : ownP (chkP l fs) k = ownP (chkP l [fs[k]]) 0 := by
  have h1 := own_flds l k fs []
  have h2 := own_flds l 0 [fs[k]] []
  simp only [List.length_nil, Nat.zero_le, Nat.sub_zero, true_and, List.length_cons] at h1 h2
  rw [dif_pos hk] at h1
  rw [dif_pos (by omega)] at h2
  unfold chkP
  rw [own_app, own_app, own_must, own_must, h1]
  exact h2.symm
theorem chk_empty (l : List TagRule) : chkP l [] = mustP [] l := by simp [chkP, fldsP]
theorem eqR (a b : TagRule) : eqDs a.ds b.ds = some (decide (a = b)) := by
  cases a; cases b
  simp [TagRule.ds, eqDs, eqD, Bool.and_assoc, Bool.beq_eq_decide_eq]
end Go.Rl
