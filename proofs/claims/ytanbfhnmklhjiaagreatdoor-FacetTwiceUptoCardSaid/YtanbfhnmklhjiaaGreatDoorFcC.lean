/- Part of a proof about this program; no condition of its own. -/
import Derived.Test.YtanbfhnmklhjiaaGreatDoorFcB
import Derived.Lib.ItoaNum
import Derived.Lib.Join
set_option linter.all false
/- Decimals; the values of a facet, in plain data. No condition. -/
namespace Go.Fc
open Go Go.Ax Go.Or Go.Tx Go.Lib
theorem dec_small {n : Nat} (h : n < 10) : decDigits n = [UInt8.ofNat (48 + n)] := by rw [decDigits, dif_pos h]
theorem dec_big {n : Nat} (h : ¬ n < 10) : decDigits n = decDigits (n / 10) ++ [UInt8.ofNat (48 + n % 10)] := by rw [decDigits, dif_neg h]
def DigI (n : Nat) (s : Nat × List UInt8) : Prop := (s.2 = [] ∧ s.1 = n) ∨ (s.2 ≠ [] ∧ ((s.1 = 0 ∧ s.2 = decDigits n) ∨ (0 < s.1 ∧ decDigits s.1 ++ s.2 = decDigits n)))
theorem DigI.next {n m : Nat} {o : List UInt8} (h : DigI n (m, o)) (hm : 0 < m ∨ o = []) : DigI n (m / 10, UInt8.ofNat (48 + m % 10) :: o) := by
  refine .inr ⟨by simp, ?_⟩
  simp only
  rcases h with ⟨h1, h2⟩ | ⟨h1, h2⟩
  · simp only at h1 h2
    subst h1; subst h2
    by_cases hs : m < 10
    · exact .inl ⟨by omega, by rw [dec_small hs, Nat.mod_eq_of_lt hs]⟩
    · exact .inr ⟨by omega, by rw [dec_big hs]⟩
  · simp only at h1 h2
    rcases h2 with ⟨h3, _⟩ | ⟨h3, h4⟩
    · rcases hm with hm | hm
      · omega
      · exact absurd hm h1
    · rw [← h4]
      by_cases hs : m < 10
      · exact .inl ⟨by omega, by rw [dec_small hs, Nat.mod_eq_of_lt hs]; rfl⟩
      · exact .inr ⟨by omega, by rw [dec_big hs, List.append_assoc]; rfl⟩
theorem DigI.done {n m : Nat} {o : List UInt8} (h : DigI n (m, o)) (hm : m = 0) (ho : o ≠ []) : o = decDigits n := by
  rcases h with ⟨h1, h2⟩ | ⟨h1, h2⟩
  · exact absurd h1 ho
  · rcases h2 with ⟨_, h3⟩ | ⟨h3, _⟩
    · exact h3
    · simp only at h3; omega
theorem digit_at : ∀ d, d < 10 → (([48, 49, 50, 51, 52, 53, 54, 55, 56, 57] : List UInt8).drop d).take 1 = [UInt8.ofNat (48 + d)] := by decide
theorem dec_len : ∀ (u : Nat), (decDigits u).length ≤ u + 1 := fun u => by
  induction u using Nat.strongRecOn with
  | _ u ih =>
    by_cases h : u < 10
    · rw [dec_small h]; simp
    · rw [dec_big h, List.length_append]
      have := ih (u / 10) (by omega)
      simp
      omega
theorem dec_len_k : ∀ (k u : Nat), u < 10 ^ (k + 1) → (decDigits u).length ≤ k + 1
  | 0, u, h => by rw [dec_small (by omega)]; simp
  | k + 1, u, h => by
    by_cases hs : u < 10
    · rw [dec_small hs]; simp
    · rw [dec_big hs, List.length_append]
      have := dec_len_k k (u / 10) (by rw [Nat.pow_succ] at h; omega)
      simp
      omega
/-! ### ascending texts -/
def putS (l : List Str) (s : Str) : List Str := if s = [] then l else Or.put ltS l s false
theorem putS_len (l : List Str) (s : Str) : (putS l s).length ≤ l.length + 1 := by
  unfold putS
  split
  · omega
  · exact put_len s l false
theorem put_step {l : List Str} {k : Nat} {n : Str} {d : Bool} (h : k < l.length) : Or.put ltS (l.drop k) n d = if d = false ∧ l[k] ≠ n ∧ ltS n l[k] = true then n :: l[k] :: Or.put ltS (l.drop (k + 1)) n true else l[k] :: Or.put ltS (l.drop (k + 1)) n (d || decide (l[k] = n)) := by
  rw [drop_cons h]; rfl
theorem put_end {l : List Str} {k : Nat} {n : Str} {d : Bool} (h : ¬ k < l.length) : Or.put ltS (l.drop k) n d = if d then [] else [n] := by
  rw [List.drop_eq_nil_of_le (by omega)]; rfl
/-! ### years -/
/-- The first run of exactly four digits that is a year, as the reference reads it: the number so far, and how many digits. -/
def yrG : Str → Int → Int → Int
  | [], n, g => if g = 4 ∧ 1000 ≤ n ∧ n ≤ 2199 then n else 0
  | x :: r, n, g => if digB x = true then yrG r (if g + 1 ≤ 4 then n * 10 + ((x.toNat : Int) - 48) else n) (g + 1) else if g = 4 ∧ 1000 ≤ n ∧ n ≤ 2199 then n else yrG r 0 0
def yearS (s : Str) : Int := yrG s 0 0
def yearSs : List Str → Int
  | [] => 0
  | s :: r => if 0 < yearS s then yearS s else yearSs r
def isYT (t : Str) : Bool := decide (t = [50, 54, 48]) || decide (t = [50, 54, 52])
def yearFs : List Fld → Int
  | [] => 0
  | f :: r => if isYT f.tag = true ∧ 0 < yearSs (allS f.subs [99]) then yearSs (allS f.subs [99]) else yearFs r
theorem yrG_bd : ∀ (s : Str) (n g : Int), 0 ≤ yrG s n g ∧ yrG s n g ≤ 2199
  | [], n, g => by unfold yrG; split <;> omega
  | x :: r, n, g => by
    unfold yrG
    split
    · exact yrG_bd r _ _
    · split
      · omega
      · exact yrG_bd r 0 0
theorem yearS_bd (s : Str) : 0 ≤ yearS s ∧ yearS s ≤ 2199 := yrG_bd s 0 0
theorem yearS_ge (s : Str) : yearS s = 0 ∨ 1000 ≤ yearS s := by
  have : ∀ (s : Str) (n g : Int), yrG s n g = 0 ∨ 1000 ≤ yrG s n g := by
    intro s
    induction s with
    | nil => intro n g; unfold yrG; split <;> omega
    | cons x r ih =>
      intro n g
      unfold yrG
      split
      · exact ih _ _
      · split
        · omega
        · exact ih _ _
  exact this s 0 0
theorem yearSs_bd : ∀ l : List Str, (yearSs l = 0 ∨ 1000 ≤ yearSs l) ∧ yearSs l ≤ 2199
  | [] => by simp [yearSs]
  | s :: r => by
    unfold yearSs
    have h1 := yearS_bd s
    have h2 := yearS_ge s
    split
    · omega
    · exact yearSs_bd r
theorem yearFs_bd : ∀ l : List Fld, (yearFs l = 0 ∨ 1000 ≤ yearFs l) ∧ yearFs l ≤ 2199
  | [] => by simp [yearFs]
  | f :: r => by
    unfold yearFs
    split
    · exact yearSs_bd _
    · exact yearFs_bd r
theorem yearSs_step {l : List Str} {k : Nat} (h : k < l.length) : yearSs (l.drop k) = if 0 < yearS l[k] then yearS l[k] else yearSs (l.drop (k + 1)) := by
  rw [drop_cons h]; rfl
theorem yearSs_end {l : List Str} {k : Nat} (h : ¬ k < l.length) : yearSs (l.drop k) = 0 := by
  rw [List.drop_eq_nil_of_le (by omega)]; rfl
theorem yearFs_step {l : List Fld} {k : Nat} (h : k < l.length) : yearFs (l.drop k) = if isYT l[k].tag = true ∧ 0 < yearSs (allS l[k].subs [99]) then yearSs (allS l[k].subs [99]) else yearFs (l.drop (k + 1)) := by
  rw [drop_cons h]; rfl
theorem yearFs_end {l : List Fld} {k : Nat} (h : ¬ k < l.length) : yearFs (l.drop k) = 0 := by
  rw [List.drop_eq_nil_of_le (by omega)]; rfl
/-! ### values -/
def unknownS : Str := [117, 110, 107, 110, 111, 119, 110]
def decadeS (r : Rec) : Str := if yearFs r.fields = 0 then unknownS else itoa (yearFs r.fields / 10 * 10) ++ [115]
def kindS (k : Int) : Str := if k = 1 then [98, 111, 111, 107] else if k = 2 then [115, 101, 114, 105, 97, 108] else if k = 3 then [109, 97, 112] else [100, 105, 103, 105, 116, 97, 108]
def isSubj (t : Str) : Bool := match t with | x :: _ => decide (x.toNat = 54) | [] => false
def isAuth (t : Str) : Bool := decide (t = [49, 48, 48]) || (decide (t = [49, 49, 48]) || (decide (t = [55, 48, 48]) || decide (t = [55, 49, 48])))
/-- What a field gives to a facet. -/
def rawFld (kind : Int) (f : Fld) : List Str := if kind = 4 then (if isSubj f.tag = true then [(getS f.subs 97).1] else []) else if kind = 5 then (if isAuth f.tag = true then [Lib.join (allS f.subs [97]) [32]] else []) else []
def rawV (kind : Int) (r : Rec) : List Str :=
  if kind = 1 then [r.lang] else if kind = 2 then (if 1 ≤ r.kind ∧ r.kind ≤ 4 then [kindS r.kind] else []) else if kind = 3 then [decadeS r] else r.fields.flatMap (rawFld kind)
def putsS (l : List Str) : List Str := l.foldl putS []
def valuesF (kind : Int) (r : Rec) : List Str := putsS (rawV kind r)
theorem putsS_len (l : List Str) : (putsS l).length ≤ l.length := by
  have : ∀ (xs o : List Str), (xs.foldl putS o).length ≤ o.length + xs.length := by
    intro xs
    induction xs with
    | nil => intro o; simp
    | cons x r ih =>
      intro o
      have h1 := ih (putS o x)
      have h2 := putS_len o x
      simp only [List.foldl_cons, List.length_cons]; omega
  have := this l []
  simpa [putsS] using this
theorem putsS_eq (l : List Str) : putsS l = (l.filter fun s => decide (s ≠ [])).foldl (fun o x => Or.put ltS o x false) [] := by
  unfold putsS
  have : ∀ (xs o : List Str), xs.foldl putS o = (xs.filter fun s => decide (s ≠ [])).foldl (fun o x => Or.put ltS o x false) o := by
    intro xs
    induction xs with
    | nil => intro o; rfl
    | cons x r ih =>
      intro o
      rw [List.foldl_cons, ih]
      by_cases h : x = []
      · subst h; simp [putS]
      · rw [List.filter_cons_of_pos (by simpa using h), List.foldl_cons]
        unfold putS
        rw [if_neg h]
  exact this l []
theorem putsS_spec (l : List Str) : Asc ltS (putsS l) ∧ ∀ v, v ∈ putsS l ↔ (v ≠ [] ∧ v ∈ l) := by
  rw [putsS_eq]
  obtain ⟨h1, h2⟩ := puts_spec sto_S (l.filter fun s => decide (s ≠ [])) [] .nil
  refine ⟨h1, fun v => ?_⟩
  rw [h2]
  simp [and_comm]
theorem dec3 {y : Nat} (h1 : 1000 ≤ y) (h2 : y ≤ 2199) : 3 ≤ (decDigits (y / 10)).length := by
  rw [dec_big (by omega), dec_big (by omega), List.length_append, List.length_append]
  have : 0 < (decDigits (y / 10 / 10 / 10)).length := by
    rw [decDigits]
    split <;> simp
  simp only [List.length_cons, List.length_nil]; omega
theorem dec0s {y : Nat} (h1 : 1000 ≤ y) : decDigits (y / 10) ++ [48, 115] = itoa ((y : Int) / 10 * 10) ++ [115] := by
  have e : ((y : Int) / 10 * 10) = ((y / 10 * 10 : Nat) : Int) := by omega
  rw [e]
  unfold itoa
  rw [if_neg (by omega), Int.toNat_natCast, dec_big (by omega : ¬ y / 10 * 10 < 10)]
  rw [show y / 10 * 10 / 10 = y / 10 by omega, show y / 10 * 10 % 10 = 0 by omega]
  simp
theorem foldl_next {k : Nat} {kind : Int} {fs : List Fld} (h : k < fs.length) : putsS ((fs.take (k + 1)).flatMap (rawFld kind)) = (rawFld kind fs[k]).foldl putS (putsS ((fs.take k).flatMap (rawFld kind))) := by
  unfold putsS
  rw [Fc.take_next h, List.flatMap_append, List.foldl_append]
  simp
/-- What a record must be, for its facets. -/
structure Rec.fit (r : Rec) : Prop where
  sm : r.sm
  nf : r.fields.length ≤ 2000
  ns : ∀ f ∈ r.fields, f.subs.length ≤ 2000
  jl : ∀ f ∈ r.fields, (Lib.join (allS f.subs [97]) [32]).length ≤ 1000000000
theorem raw_len (kind : Int) (f : Fld) : (rawFld kind f).length ≤ 1 := by
  unfold rawFld
  split
  · split <;> simp
  · split
    · split <;> simp
    · simp
theorem raws_len (kind : Int) : ∀ fs : List Fld, (fs.flatMap (rawFld kind)).length ≤ fs.length
  | [] => by simp
  | f :: r => by
    rw [List.flatMap_cons, List.length_append, List.length_cons]
    have := raw_len kind f
    have := raws_len kind r
    omega
end Go.Fc
