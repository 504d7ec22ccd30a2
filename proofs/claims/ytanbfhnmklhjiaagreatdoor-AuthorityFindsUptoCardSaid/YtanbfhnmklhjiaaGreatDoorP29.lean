/- Part of a proof about this program; no condition of its own. -/
import Derived.Test.YtanbfhnmklhjiaaGreatDoorP28
import Derived.Test.YtanbfhnmklhjiaaGreatDoorP27
import Derived.Test.YtanbfhnmklhjiaaGreatDoorP25
import Derived.Lib.ItoaNum
import Derived.Lib.Join
import Derived.Test.YtanbfhnmklhjiaaGreatDoorP22
import Derived.Test.YtanbfhnmklhjiaaGreatDoorP26
import Derived.Shelf.Strings.Builder1
import Derived.Shelf.Strings.Builder2
import Derived.Shelf.Strings.OnBuilder
import Derived.Shelf.Small.Bits
import Derived.Shelf.Small.Strs
import Derived.Shelf.Small.Wraps
import Derived.Shelf.Strings.BuilderF
import Derived.Shelf.Strings.BuilderK
import Derived.Shelf.Strings.BuilderRune
import Derived.Shelf.Utf8.RuneCount
import Derived.Shelf.Strconv.Itoa0
import Derived.Shelf.Strconv.Itoa1
import Derived.Shelf.LaysM
import Derived.Shelf.Strconv.Itoa2
import Derived.Shelf.Strconv.Itoa3
import Derived.Shelf.Strings.Search1
import Derived.Shelf.Strings.Search2
import Derived.Shelf.Strings.Search3
import Derived.Shelf.Strings.Count
import Derived.Shelf.Strings.Shaped
import Derived.Shelf.Sort.Plain
import Derived.Shelf.Strings.Prefix
import Derived.Shelf.Strings.Split
import Derived.Shelf.Strings.SplitShaped
import Derived.Shelf.Unicode.Decode
import Derived.Shelf.Strings.RuneCount
import Derived.Shelf.Strings.Explode
import Derived.Shelf.Unicode.DecodeSlow
import Derived.Shelf.Unicode.DecodeAny
import Derived.Shelf.Strings.FieldsFuncAny
import Derived.Ground.Names2Prog
import Derived.Shelf.Slices.Clone
import Derived.Shelf.Slices.CompactI
import Derived.Shelf.Slices.CompactS
import Derived.Shelf.Slices.SearchI
import Derived.Shelf.Slices.Cells
import Derived.Shelf.Slices.In.SortNone
import Derived.Ground.SlgnProg
import Derived.Shelf.SlicesE.Compact
import Derived.Shelf.SlicesE.Clone
import Derived.Ground.SlgfProg
import Derived.Shelf.SlicesE.IndexFunc
import Derived.Shelf.SlicesE.DeleteFunc
import Derived.Test.YtanbfhnmklhjiaaGreatDoorProg
import Derived.Lib.AppendIntMem
import Derived.Lib.IndexAny
set_option linter.all false
/- Walks: lists and fields (reference). -/
namespace Go.Proofs
open Go Go.Ax Go.Tx Go.Fc
set_option maxRecDepth 100000
set_option maxHeartbeats 0
variable {Γ : List (Nat × List D)}
theorem c51 (a b : List Int) (hl : a.length ≤ 2000000) : AFn Tryz.prog Γ 51 [.c (.d (.lst 1 (a.map iD))), .c (.d (.lst 1 (b.map iD)))] [.d (.bool (decide (a = b)))] := by
  refine AFn.vc [] Tryz.func51 rfl Tryz.mixed (by kernel_rfl) Tryz.ntmps51 Tryz.results51 (by simp) ?_
  push_cast
  refine ⟨fun h => (decide_eq_false fun e => h (by rw [e])).symm, fun h => ?_⟩
  have hlen : a.length = b.length := by omega
  refine LoopV.cnt Tryz.mixed [0, 1] a.length (fun k => [(5, .c (.d (.int .i64 k)))]) (fun k => a = b ↔ a.drop k = b.drop k) (by simp) ?_
  intro k hk hinv
  push_cast
  refine ⟨fun h => ?_, fun h => ?_⟩
  · obtain ⟨hlt, hlt2⟩ : ∃ hlt : k < a.length, k < b.length := ⟨by omega, by omega⟩
    rw [Fc.eq_step hlt hlt2] at hinv
    refine ⟨hlt, hlt2, fun e => (decide_eq_false fun f => e (hinv.1 f).1).symm, fun e => ⟨by omega, hlt, ?_⟩⟩
    rw [hinv]; simp [e]
  · exact (decide_eq_true (hinv.2 (Fc.eq_end (by omega) hlen))).symm
theorem c45 (a b : List Str) (hl : a.length ≤ 2000000) : AFn Tryz.prog Γ 45 [.c (.d (.lst 1 (a.map Fc.sD))), .c (.d (.lst 1 (b.map Fc.sD)))] [.d (.bool (decide (a = b)))] := by
  refine AFn.vc [] Tryz.func45 rfl Tryz.mixed (by kernel_rfl) Tryz.ntmps45 Tryz.results45 (by simp) ?_
  push_cast
  refine ⟨fun h => (decide_eq_false fun e => h (by rw [e])).symm, fun h => ?_⟩
  have hlen : a.length = b.length := by omega
  refine LoopV.cnt Tryz.mixed [0, 1] a.length (fun k => [(5, .c (.d (.int .i64 k)))]) (fun k => a = b ↔ a.drop k = b.drop k) (by simp) ?_
  intro k hk hinv
  push_cast
  refine ⟨fun h => ?_, fun h => ?_⟩
  · obtain ⟨hlt, hlt2⟩ : ∃ hlt : k < a.length, k < b.length := ⟨by omega, by omega⟩
    rw [Fc.eq_step hlt hlt2] at hinv
    refine ⟨hlt, hlt2, fun e => (decide_eq_false fun f => e (hinv.1 f).1).symm, fun e => ⟨by omega, hlt, ?_⟩⟩
    rw [hinv]; simp [e]
  · exact (decide_eq_true (hinv.2 (Fc.eq_end (by omega) hlen))).symm
theorem join_next {l : List Str} {k : Nat} (sep : Str) (h : k < l.length) : Lib.join (l.take (k + 1)) sep = if k = 0 then l[k] else Lib.join (l.take k) sep ++ sep ++ l[k] := by
  rw [Fc.take_next h]
  generalize hx : l.take k = xs
  have hl : xs.length = k := by rw [← hx, List.length_take]; omega
  cases xs with
  | nil => simp at hl; subst hl; rw [if_pos rfl]; simp [Lib.join_one]
  | cons y r =>
    rw [if_neg (by simp at hl; omega), List.cons_append, Lib.join_cons, Lib.join_cons]
    simp [Lib.joinTail]
theorem join_len_take (l : List Str) (sep : Str) (k : Nat) : (Lib.join (l.take k) sep).length ≤ (Lib.join l sep).length := by
  have key : ∀ (r : List Str) (k : Nat), (Lib.joinTail sep (r.take k)).length ≤ (Lib.joinTail sep r).length := by
    intro r
    induction r with
    | nil => intro k; simp
    | cons x r ih =>
      intro k
      cases k with
      | zero => simp [Lib.joinTail]
      | succ k =>
        have := ih k
        simp only [List.take_succ_cons, Lib.joinTail, List.map_cons, List.flatten_cons, List.length_append] at this ⊢
        omega
  cases l with
  | nil => simp
  | cons x r =>
    cases k with
    | zero => simp [Lib.join_nil]
    | succ k =>
      rw [List.take_succ_cons, Lib.join_cons, Lib.join_cons, List.length_append, List.length_append]
      have := key r k
      omega
end Go.Proofs

/- Validity of fields and records, in plain data. No condition. -/
namespace Go.Fc
open Go Go.Ax Go.Or Go.Tx
def Fld.sm (f : Fld) : Prop := ∀ s ∈ f.subs, s.val.length ≤ 2000000
def Rec.sm (r : Rec) : Prop := ∀ f ∈ r.fields, f.sm
end Go.Fc

/- Walks: validity of fields and records (reference). -/
namespace Go.Proofs
open Go Go.Ax Go.Tx Go.Fc
set_option maxRecDepth 100000
set_option maxHeartbeats 0
variable {Γ : List (Nat × List D)}
end Go.Proofs

/- Walks: validity of records (reference). -/
namespace Go.Proofs
open Go Go.Ax Go.Tx Go.Fc
set_option maxRecDepth 100000
set_option maxHeartbeats 0
variable {Γ : List (Nat × List D)}
end Go.Proofs

/- Decimals; the values of a facet, in plain data. No condition. -/
namespace Go.Fc
open Go Go.Ax Go.Or Go.Tx Go.Lib
theorem dec_small {n : Nat} (h : n < 10) : decDigits n = [UInt8.ofNat (48 + n)] := by rw [decDigits, dif_pos h]
theorem dec_big {n : Nat} (h : ¬ n < 10) : decDigits n = decDigits (n / 10) ++ [UInt8.ofNat (48 + n % 10)] := by rw [decDigits, dif_neg h]
def DigI (n : Nat) (s : Nat × List UInt8) : Prop := (s.2 = [] ∧ s.1 = n) ∨ (s.2 ≠ [] ∧ ((s.1 = 0 ∧ s.2 = decDigits n) ∨ (0 < s.1 ∧ decDigits s.1 ++ s.2 = decDigits n)))
theorem DigI.next {n m : Nat} {o : List UInt8} (h : DigI n (m, o)) (hm : 0 < m ∨ o = []) : DigI n (m / 10, UInt8.ofNat (48 + m % 10) :: o) := by
  refine .inr ⟨by simp, ?_⟩
  simp only
  rcases h with ⟨h1, h2⟩ | ⟨h1, h2⟩
  · simp only at h1 h2
    subst h1; subst h2
    by_cases hs : m < 10
    · exact .inl ⟨by omega, by rw [dec_small hs, Nat.mod_eq_of_lt hs]⟩
    · exact .inr ⟨by omega, by rw [dec_big hs]⟩
  · simp only at h1 h2
    rcases h2 with ⟨h3, _⟩ | ⟨h3, h4⟩
    · rcases hm with hm | hm
      · omega
      · exact absurd hm h1
    · rw [← h4]
      by_cases hs : m < 10
      · exact .inl ⟨by omega, by rw [dec_small hs, Nat.mod_eq_of_lt hs]; rfl⟩
      · exact .inr ⟨by omega, by rw [dec_big hs, List.append_assoc]; rfl⟩
theorem DigI.done {n m : Nat} {o : List UInt8} (h : DigI n (m, o)) (hm : m = 0) (ho : o ≠ []) : o = decDigits n := by
  rcases h with ⟨h1, h2⟩ | ⟨h1, h2⟩
  · exact absurd h1 ho
  · rcases h2 with ⟨_, h3⟩ | ⟨h3, _⟩
    · exact h3
    · simp only at h3; omega
/-! ### ascending texts -/
def putS (l : List Str) (s : Str) : List Str := if s = [] then l else Or.put ltS l s false
/-! ### years -/
/-! ### values -/
def isSubj (t : Str) : Bool := match t with | x :: _ => decide (x.toNat = 54) | [] => false
def isAuth (t : Str) : Bool := decide (t = [49, 48, 48]) || (decide (t = [49, 49, 48]) || (decide (t = [55, 48, 48]) || decide (t = [55, 49, 48])))
def rawFld (kind : Int) (f : Fld) : List Str := if kind = 4 then (if isSubj f.tag = true then [(getS f.subs 97).1] else []) else if kind = 5 then (if isAuth f.tag = true then [Lib.join (allS f.subs [97]) [32]] else []) else []
def putsS (l : List Str) : List Str := l.foldl putS []
theorem dec3 {y : Nat} (h1 : 1000 ≤ y) (h2 : y ≤ 2199) : 3 ≤ (decDigits (y / 10)).length := by
  rw [dec_big (by omega), dec_big (by omega), List.length_append, List.length_append]
  have : 0 < (decDigits (y / 10 / 10 / 10)).length := by
    rw [decDigits]
    split <;> simp
  simp only [List.length_cons, List.length_nil]; omega
theorem foldl_next {k : Nat} {kind : Int} {fs : List Fld} (h : k < fs.length) : putsS ((fs.take (k + 1)).flatMap (rawFld kind)) = (rawFld kind fs[k]).foldl putS (putsS ((fs.take k).flatMap (rawFld kind))) := by
  unfold putsS
  rw [Fc.take_next h, List.flatMap_append, List.foldl_append]
  simp
structure Rec.fit (r : Rec) : Prop where
  sm : r.sm
  nf : r.fields.length ≤ 2000
  ns : ∀ f ∈ r.fields, f.subs.length ≤ 2000
  jl : ∀ f ∈ r.fields, (Lib.join (allS f.subs [97]) [32]).length ≤ 1000000000
end Go.Fc

/- Walks: values of facets (reference), first part. -/
namespace Go.Proofs
open Go Go.Ax Go.Tx Go.Fc Go.Or
set_option maxRecDepth 100000
set_option maxHeartbeats 0
variable {Γ : List (Nat × List D)}
end Go.Proofs

/- Walks: values of facets (reference), second part. -/
namespace Go.Proofs
open Go Go.Ax Go.Tx Go.Fc Go.Or Go.Lib
set_option maxRecDepth 100000
set_option maxHeartbeats 0
variable {Γ : List (Nat × List D)}
end Go.Proofs

/- Browse lists, in plain data. No condition. -/
namespace Go.Or
open Go
end Go.Or
namespace Go.Fc
open Go Go.Ax Go.Or Go.Tx
structure Br where
  hd : Str
  ref : Str
  cnt : Int
  deriving DecidableEq, Inhabited
structure Au where
  id : Int
  kind : Int
  hd : Str
  see : List Str
  above : List Int
  deriving DecidableEq, Inhabited
def Br.ds (b : Br) : List D := [.str b.hd, .str b.ref, .int .i64 b.cnt]
def Au.ds (a : Au) : List D := [.int .i64 a.id, .int .i64 a.kind, .str a.hd, .lst 1 (a.see.map sD), .lst 1 (a.above.map iD)]
@[push_cast] theorem Br.ds_eq (b : Br) : b.ds = [.str b.hd, .str b.ref, .int .i64 b.cnt] := rfl
@[push_cast] theorem Au.ds_eq (a : Au) : a.ds = [.int .i64 a.id, .int .i64 a.kind, .str a.hd, .lst 1 (a.see.map sD), .lst 1 (a.above.map iD)] := rfl
/-! ### the order -/
end Go.Fc

/- The reference's folding, keys and order. No condition. -/
namespace Go.Tx
open Go Go.Ax Go.Lib
theorem foldC_len (c : Nat) : (foldC c).length ≤ 2 := by
  by_cases h : c < 256
  · have key : (List.range 256).all (fun c => decide ((foldC c).length ≤ 2)) = true := by kernel_rfl
    exact of_decide_eq_true (List.all_eq_true.1 key c (List.mem_range.2 h))
  · unfold foldC
    rw [if_neg (by omega), if_pos (by omega)]
    decide
theorem chF_at {s : List UInt8} {k : Nat} (hk : k < s.length) : chF (s.drop k) = ((decF (s.drop k)).1, (s.drop k).take (max (decF (s.drop k)).2 1)) :: chF (s.drop (k + max (decF (s.drop k)).2 1)) := by
  have hne : s.drop k ≠ [] := fun e => by have := congrArg List.length e; rw [List.length_drop] at this; simp at this; omega
  rw [chF_step hne, List.drop_drop]
theorem chD_at {s : List UInt8} {k : Nat} (hk : k < s.length) : chD (s.drop k) = ((decodeL (s.drop k)).1, (s.drop k).take (decodeL (s.drop k)).2) :: chD (s.drop (k + (decodeL (s.drop k)).2)) := by
  have hne : s.drop k ≠ [] := fun e => by have := congrArg List.length e; rw [List.length_drop] at this; simp at this; omega
  rw [chD_step hne, List.drop_drop]
theorem foldC_az {c : Nat} (h1 : 65 ≤ c) (h2 : c ≤ 90) : ([97, 98, 99, 100, 101, 102, 103, 104, 105, 106, 107, 108, 109, 110, 111, 112, 113, 114, 115, 116, 117, 118, 119, 120, 121, 122].drop (c - 65)).take 1 = foldC c := by
  have key : (List.range 91).all (fun c => decide (c < 65) || decide (([97, 98, 99, 100, 101, 102, 103, 104, 105, 106, 107, 108, 109, 110, 111, 112, 113, 114, 115, 116, 117, 118, 119, 120, 121, 122].drop (c - 65)).take 1 = foldC c)) = true := by kernel_rfl
  have := List.all_eq_true.1 key c (List.mem_range.2 (by omega))
  simp only [Bool.or_eq_true, decide_eq_true_eq] at this
  rcases this with h | h
  · omega
  · exact h
theorem encR_len (c : Int) : (encodeRune c).length ≤ 4 := by
  have := runeCells_le c
  rw [runeCells_length] at this
  exact this.2
end Go.Tx
namespace Go.Proofs
open Go Go.Ax Go.Tx Go.Lib Go.RowKit Go.Fc
set_option maxRecDepth 100000
set_option maxHeartbeats 0
variable {Γ : List (Nat × List D)}
theorem c252 (c : Nat) : AFn Tryz.prog Γ 252 [.c (.d (.int .i64 c))] [.d (.str (foldC c))] := by
  refine AFn.vc [] Tryz.func252 rfl Tryz.mixed (by kernel_rfl) Tryz.ntmps252 Tryz.results252 (by simp) ?_
  push_cast
  have haz := fun h1 h2 => foldC_az (c := c) h1 h2
  generalize hF : foldC c = F at *
  unfold foldC at hF
  simp only at hF
  repeat' (first | (intro _) | (refine And.intro ?_ ?_))
  all_goals first
    | omega
    | (rw [show ((c : Int) - 65).toNat = c - 65 by omega, show ((c : Int) - 64).toNat - (c - 65) = 1 by omega]; exact haz (by omega) (by omega))
    | (rw [← hF]
       first
         | (simp only [show (if 224 ≤ c then c - 32 else c) = c - 32 from if_pos (by omega)])
         | (simp only [show (if 224 ≤ c then c - 32 else c) = c from if_neg (by omega)])
         | skip
       repeat (first | rw [if_pos (by omega)] | rw [if_neg (by omega)]))
theorem c192 (s : List UInt8) (hs : s.length ≤ 8000000) : AFn Tryz.prog Γ 192 [.c (.d (.str s))] [.d (.str (foldF s))] := by
  refine AFn.vc [] Tryz.func192 rfl Tryz.mixed (by kernel_rfl) Tryz.ntmps192 Tryz.results192 (by simp) ?_
  push_cast
  refine LoopV.of0 Tryz.mixed [0] (fun q : Nat × List UInt8 => [(3, .c (.d (.str q.2))), (4, .c (.d (.int .i64 q.1)))]) (fun q => q.1 ≤ s.length ∧ q.2 ++ (chF (s.drop q.1)).flatMap fold1 = foldF s ∧ q.2.length ≤ 2 * q.1) (fun q => s.length - q.1) (0, []) ⟨Nat.zero_le _, by simp [foldF], by simp⟩ ?_ (by push_cast)
  rintro ⟨k, out⟩ ⟨hk, hv, hl⟩
  have hk : k ≤ s.length := hk
  have hl : out.length ≤ 2 * k := hl
  have hv : out ++ (chF (s.drop k)).flatMap fold1 = foldF s := hv
  push_cast
  refine ⟨fun h => ?_, fun h => ?_⟩
  · have hk' : k < s.length := by omega
    refine CallL.q (c72 s k hk' (by omega)) ?_
    push_cast
    refine CallL.q (c194 s k hk' (by omega)) ?_
    push_cast
    refine CallL.q (c252 (decF (s.drop k)).1) ?_
    push_cast
    have hle := dec_at hk'
    rw [chF_at hk', List.flatMap_cons, ← List.append_assoc] at hv
    have hn1 : 1 ≤ max (decF (s.drop k)).2 1 := by omega
    have hn2 : k + max (decF (s.drop k)).2 1 ≤ s.length := by omega
    generalize hn : max (decF (s.drop k)).2 1 = n at *
    generalize hcc : (decF (s.drop k)).1 = c at *
    have hzn : ((k : Int) + (n : Int)).toNat - k = n := by omega
    have ht : ((s.drop k).take n).length ≤ n := by rw [List.length_take]; omega
    have hf2 := foldC_len c
    have fin : ∀ o : List UInt8, fold1 (c, (s.drop k).take n) = o → o.length ≤ 2 * n → ∃ s' : Nat × List UInt8, ((s'.1 ≤ s.length ∧ s'.2 ++ (chF (s.drop s'.1)).flatMap fold1 = foldF s ∧ s'.2.length ≤ 2 * s'.1) ∧ s.length - s'.1 < s.length - k) ∧ s'.2 = out ++ o ∧ (s'.1 : Int) = (k : Int) + n := fun o e ho =>
      ⟨(k + n, out ++ o), ⟨⟨hn2, by show out ++ o ++ _ = _; rw [← e]; exact hv, by show (out ++ o).length ≤ _; rw [List.length_append]; omega⟩, by show s.length - (k + n) < _; omega⟩, rfl, by show ((k + n : Nat) : Int) = _; omega⟩
    have c1 : (-9223372036854775808 ≤ (k : Int) + n ∧ (k : Int) + n ≤ 9223372036854775807) := ⟨by omega, by omega⟩
    have c2 : k ≤ ((k : Int) + n).toNat ∧ ((k : Int) + n).toNat ≤ s.length := ⟨by omega, by omega⟩
    rw [hzn]
    exact ⟨fun e => ⟨c1, by omega, c2, by omega, c1, fin _ (by unfold fold1; rw [if_pos e]) (by omega)⟩, fun e => ⟨by omega, c1, fin _ (by unfold fold1; rw [if_neg e]) (by omega)⟩⟩
  · rw [← hv, List.drop_eq_nil_of_le (by omega), chF_nil]
    simp
end Go.Proofs

/- The reference's keys and order. No condition. -/
namespace Go.Tx
open Go Go.Ax Go.Lib
theorem dec_w {s : List UInt8} {k : Nat} (hk : k < s.length) : 1 ≤ (decodeL (s.drop k)).2 ∧ k + (decodeL (s.drop k)).2 ≤ s.length := by
  have hne : s.drop k ≠ [] := fun e => by have := congrArg List.length e; rw [List.length_drop] at this; simp at this; omega
  have h1 := decodeL_width (s.drop k)
  have h2 : (decodeL (s.drop k)).2 ≤ (s.drop k).length := by
    have := decodeL_le (s.drop k) hne
    exact this
  rw [List.length_drop] at h2
  omega
theorem fold_flat_len : ∀ (n : Nat) (l : List UInt8), l.length ≤ n → ((chF l).flatMap fold1).length ≤ 2 * l.length
  | 0, l, h => by obtain rfl : l = [] := List.length_eq_zero_iff.1 (by omega); simp [chF, chG]
  | n + 1, l, h => by
    by_cases hne : l = []
    · subst hne; simp [chF, chG]
    · have hl : 1 ≤ l.length := List.length_pos_iff.2 hne
      have h1 := fold_flat_len n (l.drop (max (decF l).2 1)) (by rw [List.length_drop]; omega)
      have h2 := decF_le l hne
      have h3 : (fold1 ((decF l).1, l.take (max (decF l).2 1))).length ≤ 2 * max (decF l).2 1 := by
        unfold fold1
        split
        · rw [List.length_take]; omega
        · have : (foldC (decF l).1).length ≤ 2 := foldC_len (decF l).1
          show (foldC (decF l).1).length ≤ _
          omega
      rw [chF_step hne, List.flatMap_cons, List.length_append]
      rw [List.length_drop] at h1
      omega
theorem foldF_len (l : List UInt8) : (foldF l).length ≤ 2 * l.length := fold_flat_len _ l (Nat.le_refl _)
end Go.Tx
namespace Go.Proofs
open Go Go.Ax Go.Tx Go.Lib Go.RowKit Go.Fc
set_option maxRecDepth 100000
set_option maxHeartbeats 0
variable {Γ : List (Nat × List D)}
end Go.Proofs

/-
  DERIVED: THE SHELF's CONTRACTS AT THIS DUMP, IN PLAIN WORDS (tools/lay-plain.mjs out of 'TryzShelf.lean', which tools/lay-shelf.mjs wrote): THE SAME DECLARATIONS UNDER THE SAME NAMES: 'import', 'namespace', 'open', 'def', 'theorem' AND NOTHING ELSE: no command of the shelf's: FOR A HAND-IN. Each laying: the table of numbers ('.._ren') and one theorem, a field a fact of the dump's own or the kernel's comparison; each contract: ONE APPLICATION.
-/
namespace Go.Proofs
open Go.Shelf
def Tryz.lays156_ren : Go.Shelf.Ren := ⟨fun | 156 => 142 | 165 => 201 | 166 => 202 | 169 => 188 | 240 => 250 | 241 => 255 | 276 => 277 | 277 => 282 | n => n, fun | 31 => 42 | 9 => 9 | 3 => 3 | 4 => 4 | 0 => 0 | 20 => 20 | 72 => 194 | 76 => 199 | 70 => 191 | 37 => 192 | 75 => 197 | 127 => 245 | 164 => 263 | 5 => 5 | 80 => 201 | n => n, fun | n => n⟩
theorem Tryz.lays156 : Go.Proofs.Lays.n156 Tryz.prog Tryz.lays156_ren := {
  mixed := by kernel_rfl
  f156 := Tryz.func142.trans (congrArg some (by kernel_rfl))
  f165 := Tryz.func201.trans (congrArg some (by kernel_rfl))
  f166 := Tryz.func202.trans (congrArg some (by kernel_rfl))
  f169 := Tryz.func188.trans (congrArg some (by kernel_rfl))
  f240 := Tryz.func250.trans (congrArg some (by kernel_rfl))
  f241 := Tryz.func255.trans (congrArg some (by kernel_rfl))
  f276 := Tryz.func277.trans (congrArg some (by kernel_rfl))
  f277 := Tryz.func282.trans (congrArg some (by kernel_rfl))
  t0 := Tryz.underlying0
  a0 := Tryz.isAgg0
  z0 := Tryz.sizeOf0
  v0 := Tryz.zeroValue0
  t3 := Tryz.underlying3
  a3 := Tryz.isAgg3
  z3 := Tryz.sizeOf3
  v3 := Tryz.zeroValue3
  t4 := Tryz.underlying4
  a4 := Tryz.isAgg4
  z4 := Tryz.sizeOf4
  v4 := Tryz.zeroValue4
  t9 := Tryz.underlying9
  a9 := Tryz.isAgg9
  z9 := Tryz.sizeOf9
  v9 := Tryz.zeroValue9
  t20 := Tryz.underlying20
  a20 := Tryz.isAgg20
  z20 := Tryz.sizeOf20
  v20 := Tryz.zeroValue20
  t31 := Tryz.underlying42
  a31 := Tryz.isAgg42
  z31 := Tryz.sizeOf42
  v31 := Tryz.zeroValue42
  t37 := Tryz.underlying192
  a37 := Tryz.isAgg192
  z37 := Tryz.sizeOf192
  v37 := Tryz.zeroValue192
  t70 := Tryz.underlying191
  a70 := Tryz.isAgg191
  z70 := Tryz.sizeOf191
  v70 := Tryz.zeroValue191
  t72 := Tryz.underlying194
  a72 := Tryz.isAgg194
  z72 := Tryz.sizeOf194
  v72 := Tryz.zeroValue194
  t75 := Tryz.underlying197
  a75 := Tryz.isAgg197
  z75 := Tryz.sizeOf197
  v75 := Tryz.zeroValue197
  t76 := Tryz.underlying199
  a76 := Tryz.isAgg199
  z76 := Tryz.sizeOf199
  v76 := Tryz.zeroValue199
  t127 := Tryz.underlying245
  a127 := Tryz.isAgg245
  z127 := Tryz.sizeOf245
  v127 := Tryz.zeroValue245
  t164 := Tryz.underlying263
  a164 := Tryz.isAgg263
  z164 := Tryz.sizeOf263
  v164 := Tryz.zeroValue263 }
theorem Tryz.Builder_Extra_156 : Builder.Extra Tryz.prog Tryz.lays156_ren := {
  sizeBuilder := by kernel_rfl
  liesBuilder := by kernel_rfl
  t5 := Tryz.underlying5
  a5 := Tryz.isAgg5
  z5 := Tryz.sizeOf5
  v5 := Tryz.zeroValue5
  infoByte := by kernel_rfl
  cellsByte := by kernel_rfl
  sizeByte := by kernel_rfl
  neB5 := by decide }
open Go.RowKit in
/-- strings.Join: "Join concatenates the elements of its first argument to create a single string. The separator string sep is placed between elements in the resulting string.": HOWEVER MANY ELEMENTS. Below the heap's end the world is as it was. (LAID: no walk: one application.) -/
theorem Tryz.strings_Join (bk o c : Nat) (xs : List ByteArray) (sep : ByteArray) (w : World) (hcells : ∀ (j : Nat) x, xs[j]? = some x → w.cell? ⟨bk, o + j, none⟩ = some (.string x)) (hbk : bk < w.heap.size) (hN : xs.length ≤ 140737488355328) (hcap : xs.length ≤ c) (hlen : (Lib.join (xs.map (·.data.toList)) sep.data.toList).length ≤ 140737488355328) :
    Calls Tryz.prog 142 #[.slice (some ⟨bk, o, none⟩) xs.length c, .string sep] w fun e w' => e = .returned (.string ⟨(Lib.join (xs.map (·.data.toList)) sep.data.toList).toArray⟩) ∧ Below w.heap.size w w' := Any.strings_Join Tryz.lays156 Tryz.Builder_Extra_156 bk o c xs sep w hcells hbk hN hcap hlen
end Go.Proofs

/- Library functions as contracts over closed data; fields and years of the program. No condition. -/
namespace Go.Fc
open Go Go.Ax Go.Tx
theorem fI_bd {α : Type} (p : α → Bool) : ∀ (l : List α) (k : Nat), -1 ≤ fI p k l ∧ fI p k l < (k + l.length : Nat)
  | [], k => by simp [fI]; omega
  | x :: r, k => by
    rw [fI]
    have := fI_bd p r (k + 1)
    split
    · simp only [List.length_cons]; omega
    · simp only [List.length_cons]; omega
theorem fI_find {α : Type} (p : α → Bool) : ∀ (l : List α) (k : Nat), fI p k l = if l.findIdx p < l.length then ((k + l.findIdx p : Nat) : Int) else -1
  | [], k => by simp [fI]
  | x :: r, k => by
    rw [fI, List.findIdx_cons]
    cases h : p x with
    | true => simp
    | false =>
      rw [fI_find p r]
      simp only [cond_false, List.length_cons, Bool.false_eq_true, if_false]
      by_cases hl : r.findIdx p < r.length
      · rw [if_pos hl, if_pos (by omega)]; congr 1; omega
      · rw [if_neg hl, if_neg (by omega)]
end Go.Fc
namespace Go.Proofs
open Go Go.Ax Go.Tx Go.Lib Go.Shelf Go.RowKit Go.Fc
variable {Γ : List (Nat × List D)}
theorem c142 (xs : List (List UInt8)) (sep : List UInt8) (hN : xs.length ≤ 140737488355328) (hlen : (Lib.join xs sep).length ≤ 140737488355328) : AFn Tryz.prog Γ 142 [.c (.bor 1 (xs.map Fc.sD)), .c (.d (.str sep))] [.d (.str (Lib.join xs sep))] :=
  AFn.join Tryz.lays156 Tryz.Builder_Extra_156 xs sep hN hlen
/-! ### slices.Index, slices.IndexFunc -/
end Go.Proofs

/- The kinds of tags, by the reference and by the program. No condition. -/
namespace Go.Fc
open Go Go.Ax Go.Or Go.Tx
structure Tr where
  tag : Str
  rep : Bool
  must : Bool
  codes : Str
  once : Str
  needs : Str
  auth : Int
  deriving DecidableEq, Inhabited
def Tr.ds (t : Tr) : List D := [.str t.tag, .bool t.rep, .bool t.must, .str t.codes, .str t.once, .str t.needs, .int .i64 t.auth]
@[push_cast] theorem Tr.ds_eq (t : Tr) : t.ds = [.str t.tag, .bool t.rep, .bool t.must, .str t.codes, .str t.once, .str t.needs, .int .i64 t.auth] := rfl
end Go.Fc
namespace Go.Proofs
open Go Go.Ax Go.Tx Go.Lib Go.RowKit Go.Fc
set_option maxRecDepth 100000
set_option maxHeartbeats 0
variable {Γ : List (Nat × List D)}
end Go.Proofs

/- Fields and years of the program. No condition. -/
namespace Go.Proofs
open Go Go.Ax Go.Tx Go.Lib Go.Shelf Go.RowKit Go.Fc
variable {Γ : List (Nat × List D)}
theorem fI_spec {α : Type} (p : α → Bool) : ∀ (l : List α) (k : Nat), (Ax.fI p k l = -1 ∧ l.find? p = none) ∨ ∃ (j : Nat) (hj : j < l.length), Ax.fI p k l = ((k + j : Nat) : Int) ∧ l.find? p = some l[j]
  | [], k => .inl ⟨rfl, rfl⟩
  | x :: r, k => by
    rw [Ax.fI]
    by_cases h : p x = true
    · exact .inr ⟨0, by simp, by rw [if_pos h]; rfl, by simp [h]⟩
    · rw [if_neg h]
      have hf : (x :: r).find? p = r.find? p := by simp [h]
      rw [hf]
      rcases fI_spec p r (k + 1) with ⟨h1, h2⟩ | ⟨j, hj, h1, h2⟩
      · exact .inl ⟨h1, h2⟩
      · exact .inr ⟨j + 1, by simp; omega, by rw [h1]; congr 1; omega, by rw [h2]; rfl⟩
def v4 (l : Str) : Nat → Int
  | 0 => 0
  | n + 1 => v4 l n * 10 + (((l[n]?).getD 0).toNat - 48 : Int)
end Go.Proofs

/- Headings of fields. No condition. -/
namespace Go.Fc
open Go Go.Ax Go.Or Go.Tx
theorem join_bd2 {K : Nat} (sep : Str) : ∀ (l : List Str), (∀ v ∈ l, v.length ≤ K) → (Lib.join l sep).length ≤ l.length * (K + sep.length)
  | [], _ => by simp [Lib.join]
  | [x], h => by
    have := h x (by simp)
    simp [Lib.join]; omega
  | x :: y :: r, h => by
    have h1 := h x (by simp)
    have h2 := join_bd2 sep (y :: r) (fun v hv => h v (List.mem_cons_of_mem _ hv))
    have e : (Lib.join (x :: y :: r) sep).length = x.length + sep.length + (Lib.join (y :: r) sep).length := by
      simp [Lib.join]; omega
    rw [e, List.length_cons, Nat.add_mul]
    omega
structure Fld.hok (f : Fld) : Prop where
  n : f.subs.length ≤ 100
  v : ∀ s ∈ f.subs, s.val.length ≤ 1000 ∧ 0 ≤ s.code ∧ s.code ≤ 255
theorem Fld.hok.join {f : Fld} (h : f.hok) (codes sep : Str) (hs : sep.length ≤ 10) : (Lib.join (allS f.subs codes) sep).length ≤ 110000 := by
  have h1 := join_bd2 (K := 1000) sep (allS f.subs codes) (fun v hv => by obtain ⟨s, hs, rfl⟩ := allS_mem hv; exact (h.v s hs).1)
  have h2 := allS_len f.subs codes
  have h3 := h.n
  have h4 : (allS f.subs codes).length * (1000 + sep.length) ≤ 100 * 1010 := Nat.mul_le_mul (by omega) (by omega)
  omega
end Go.Fc
namespace Go.Proofs
open Go Go.Ax Go.Tx Go.Lib Go.RowKit Go.Fc
set_option maxRecDepth 100000
set_option maxHeartbeats 0
variable {Γ : List (Nat × List D)}
end Go.Proofs
