/- Part of a proof about this program; no condition of its own. -/
import Derived.Test.YtglonmggpbajgaaDoorAxVd
set_option linter.all false
/- Days and dates as plain numbers. No condition. -/
namespace Go.Sd
open Go Go.Ax
/-- Has the k-th year (1900 is year 0) 366 days? -/
def leapK (k : Nat) : Bool := (1900 + k) % 4 == 0 && ((1900 + k) % 100 != 0 || (1900 + k) % 400 == 0)
def b2 (b : Bool) : Nat := if b then 1 else 0
/-- The days ahead of the k-th year. -/
def ny : Nat → Nat
  | 0 => 0
  | k + 1 => ny k + 365 + b2 (leapK k)
/-- The days of a common year ahead of the m-th month. -/
def bm : Nat → Nat
  | 1 => 0 | 2 => 31 | 3 => 59 | 4 => 90 | 5 => 120 | 6 => 151 | 7 => 181 | 8 => 212 | 9 => 243 | 10 => 273 | 11 => 304 | 12 => 334 | 13 => 365 | _ => 0
def bef (l : Bool) (m : Nat) : Nat := bm m + if 2 < m then b2 l else 0
/-- The day's year (from 1900 on), month and day. -/
structure IsP (day k m d : Nat) : Prop where
  hk : k < 300
  y1 : ny k ≤ day
  y2 : day < ny (k + 1)
  m1 : 1 ≤ m
  m2 : m ≤ 12
  b1 : ny k + bef (leapK k) m ≤ day
  b2 : day < ny k + bef (leapK k) (m + 1)
  hd : d = day - ny k - bef (leapK k) m + 1
theorem ny_lt (k : Nat) : ny k < ny (k + 1) := by simp [ny]; omega
theorem ny_mono {a b : Nat} (h : a ≤ b) : ny a ≤ ny b := by
  induction h with
  | refl => exact Nat.le_refl _
  | step h ih => exact Nat.le_trans ih (Nat.le_of_lt (ny_lt _))
theorem ny_le (k : Nat) : ny k ≤ 366 * k := by
  induction k with
  | zero => exact Nat.le_refl _
  | succ k ih => simp only [ny, Sd.b2]; split <;> omega
theorem ny_ge (k : Nat) : 365 * k ≤ ny k := by
  induction k with
  | zero => exact Nat.le_refl _
  | succ k ih => simp only [ny]; omega
theorem ny300 : ny 300 = 109573 := by decide +kernel
theorem bef_lt (l : Bool) : ∀ m, 1 ≤ m → m ≤ 12 → bef l m < bef l (m + 1) := by
  intro m h1 h2
  have : m = 1 ∨ m = 2 ∨ m = 3 ∨ m = 4 ∨ m = 5 ∨ m = 6 ∨ m = 7 ∨ m = 8 ∨ m = 9 ∨ m = 10 ∨ m = 11 ∨ m = 12 := by omega
  cases l <;> rcases this with rfl | rfl | rfl | rfl | rfl | rfl | rfl | rfl | rfl | rfl | rfl | rfl <;> decide
theorem bef_mono (l : Bool) {a b : Nat} (h : a ≤ b) (h1 : 1 ≤ a) (h2 : b ≤ 13) : bef l a ≤ bef l b := by
  induction h with
  | refl => exact Nat.le_refl _
  | @step m h ih => have h' : a ≤ m := h; exact Nat.le_trans (ih (by omega)) (Nat.le_of_lt (bef_lt l m (by omega) (by omega)))
theorem bef13 (k : Nat) : ny k + bef (leapK k) 13 = ny (k + 1) := by
  simp [bef, bm, ny]; omega
/-- At most one. -/
theorem IsP.uniq {day k m d k' m' d' : Nat} (h : IsP day k m d) (h' : IsP day k' m' d') : k = k' ∧ m = m' ∧ d = d' := by
  have hk : k = k' := by
    rcases Nat.lt_trichotomy k k' with hlt | e | hlt
    · have := ny_mono (a := k + 1) (b := k') hlt; have := h.y2; have := h'.y1; omega
    · exact e
    · have := ny_mono (a := k' + 1) (b := k) hlt; have := h'.y2; have := h.y1; omega
  subst hk
  have hm : m = m' := by
    rcases Nat.lt_trichotomy m m' with hlt | e | hlt
    · have := bef_mono (leapK k) (a := m + 1) (b := m') hlt (by omega) (by have := h'.m2; omega); have := h.b2; have := h'.b1; omega
    · exact e
    · have := bef_mono (leapK k) (a := m' + 1) (b := m) hlt (by omega) (by have := h.m2; omega); have := h'.b2; have := h.b1; omega
  subst hm
  exact ⟨rfl, rfl, h.hd.trans h'.hd.symm⟩
/-- There is one. -/
theorem IsP.find_year {day : Nat} (h : day ≤ 109572) : ∃ k, k < 300 ∧ ny k ≤ day ∧ day < ny (k + 1) := by
  have key : ∀ n, day < ny n → ∃ k, k < n ∧ ny k ≤ day ∧ day < ny (k + 1) := by
    intro n
    induction n with
    | zero => intro h; simp [ny] at h
    | succ n ih =>
      intro h
      by_cases hn : day < ny n
      · obtain ⟨k, a, b, c⟩ := ih hn
        exact ⟨k, by omega, b, c⟩
      · exact ⟨n, by omega, by omega, h⟩
  exact key 300 (by rw [ny300]; omega)
theorem IsP.find_month {l : Bool} {r : Nat} (h : r < bef l 13) : ∃ m, 1 ≤ m ∧ m ≤ 12 ∧ bef l m ≤ r ∧ r < bef l (m + 1) := by
  have key : ∀ n, n ≤ 12 → r < bef l (n + 1) → ∃ m, 1 ≤ m ∧ m ≤ n ∧ bef l m ≤ r ∧ r < bef l (m + 1) := by
    intro n
    induction n with
    | zero => intro _ h; simp [bef, bm] at h
    | succ n ih =>
      intro hn h
      by_cases hc : r < bef l (n + 1)
      · obtain ⟨m, a, b, c, d⟩ := ih (by omega) hc
        exact ⟨m, a, by omega, c, d⟩
      · exact ⟨n + 1, by omega, Nat.le_refl _, by omega, h⟩
  exact key 12 (by omega) h
theorem IsP.exists {day : Nat} (h : day ≤ 109572) : ∃ k m d, IsP day k m d := by
  obtain ⟨k, a, b, c⟩ := IsP.find_year h
  have e := bef13 k
  obtain ⟨m, p, q, r, s⟩ := IsP.find_month (l := leapK k) (r := day - ny k) (by omega)
  exact ⟨k, m, _, ⟨a, b, c, p, q, by omega, by omega, rfl⟩⟩
end Go.Sd

/- Events as plain data, and the values by which they are counted. No condition. -/
namespace Go.Sd
open Go Go.Ax
structure Ev where
  day : Int
  kind : Int
  branch : Int
  item : Int
  ikind : Int
  patron : Int
  pkind : Int
  deriving DecidableEq
def Ev.ds (x : Ev) : List D := [.int .i64 x.day, .int .i64 x.kind, .int .i64 x.branch, .int .i64 x.item, .int .i64 x.ikind, .int .i64 x.patron, .int .i64 x.pkind]
def iD (n : Int) : List D := [.int .i64 n]
def pD (p : Int × Int) : List D := [.int .i64 p.1, .int .i64 p.2]
def inD (day : Int) : Bool := decide (0 ≤ day ∧ day ≤ 109572)
/-- The greatest number below n at which a rising row is not beyond. -/
def last (f : Nat → Nat) (v : Nat) : Nat → Nat
  | 0 => 0
  | n + 1 => if f n ≤ v then n else last f v n
theorem last_eq {f : Nat → Nat} {v k : Nat} (h1 : f k ≤ v) : ∀ n, (∀ m, k < m → m < n → v < f m) → k < n → last f v n = k
  | 0, _, h => by omega
  | n + 1, hf, h => by
    unfold last
    by_cases hn : n = k
    · subst hn; rw [if_pos h1]
    · have := hf n (by omega) (by omega)
      rw [if_neg (by omega)]
      exact last_eq h1 n (fun m a b => hf m a (by omega)) (by omega)
def yearF (day : Nat) : Nat := last ny day 300
def monthF (day : Nat) : Nat := last (fun m => ny (yearF day) + bef (leapK (yearF day)) m) day 13
theorem IsP.year {day k m d : Nat} (h : IsP day k m d) : yearF day = k :=
  last_eq h.y1 300 (fun j a _ => Nat.lt_of_lt_of_le h.y2 (ny_mono a)) h.hk
theorem IsP.month {day k m d : Nat} (h : IsP day k m d) : monthF day = m := by
  unfold monthF
  rw [h.year]
  refine last_eq (f := fun m => ny k + bef (leapK k) m) (k := m) h.b1 13 (fun j a b => ?_) (by have := h.m2; omega)
  have := bef_mono (leapK k) (a := m + 1) (b := j) a (by omega) (by omega)
  have := h.b2
  show day < ny k + bef (leapK k) j
  omega
def perF (day unit : Int) : Int :=
  if inD day then
    if unit = 1 then 1900 + (yearF day.toNat : Int) else if unit = 2 then 12 * (1900 + (yearF day.toNat : Int)) + (monthF day.toNat : Int) - 1 else -1
  else -1
def wdF (day : Int) : Int := if inD day then day % 7 else -1
def keyF (x : Ev) (by_ : Int) : Int :=
  if by_ = 1 ∨ by_ = 2 then perF x.day by_ else if by_ = 3 then x.kind else if by_ = 4 then x.branch else if by_ = 5 then x.ikind else if by_ = 6 then x.pkind else if by_ = 7 then wdF x.day else -1
def inR (n low high : Int) : Bool := decide (low ≤ n ∧ n ≤ high)
def evErr (x : Ev) : Int :=
  if inR x.day 0 109572 = false ∨ inR x.branch 1 4 = false ∨ inR x.item 1 9999 = false ∨ inR x.ikind 1 9 = false ∨ inR x.patron 0 9999 = false ∨ inR x.pkind 0 9 = false then 2 else if inR x.kind 1 15 = false then 1 else 0
def rightL : List Ev → Int
  | [] => 0
  | x :: r => if evErr x = 0 then rightL r else evErr x
def rightF (l : List Ev) : Int := if 500 < l.length then 13 else rightL l
/-- The bounds of what is counted. -/
def Ev.ok (x : Ev) : Prop := -9223372036854775808 ≤ x.kind ∧ x.kind ≤ 9223372036854775807 ∧ -9223372036854775808 ≤ x.branch ∧ x.branch ≤ 9223372036854775807 ∧ -9223372036854775808 ≤ x.ikind ∧ x.ikind ≤ 9223372036854775807 ∧ -9223372036854775808 ≤ x.pkind ∧ x.pkind ≤ 9223372036854775807
theorem perF_in (day unit : Int) : -1 ≤ perF day unit ∧ perF day unit ≤ 1000000 := by
  unfold perF
  have h1 : yearF day.toNat < 300 := by
    have : ∀ n v, 0 < n → last ny v n < n := fun n v => by
      induction n with
      | zero => intro h; omega
      | succ n ih =>
        intro _
        unfold last
        split
        · omega
        · cases n with
          | zero => simp [last]
          | succ n => have := ih (by omega); omega
    exact this 300 _ (by omega)
  have h2 : monthF day.toNat < 13 := by
    have : ∀ (f : Nat → Nat) n v, 0 < n → last f v n < n := fun f n v => by
      induction n with
      | zero => intro h; omega
      | succ n ih =>
        intro _
        unfold last
        split
        · omega
        · cases n with
          | zero => simp [last]
          | succ n => have := ih (by omega); omega
    exact this _ 13 _ (by omega)
  split
  · split
    · omega
    · split <;> omega
  · omega
theorem keyF_in (x : Ev) (h : x.ok) (by_ : Int) : -9223372036854775808 ≤ keyF x by_ ∧ keyF x by_ ≤ 9223372036854775807 := by
  obtain ⟨a1, a2, a3, a4, a5, a6, a7, a8⟩ := h
  have hp := perF_in x.day by_
  unfold keyF wdF
  repeat' split
  all_goals first | omega | exact ⟨by assumption, by assumption⟩
end Go.Sd
