/- Part of a proof about this program; no condition of its own. -/
import Derived.Test.YtanbfhnmklhjiaaGreatDoorP29
import Derived.Test.YtanbfhnmklhjiaaGreatDoorP26
import Derived.Shelf.Strings.Split
import Derived.Test.YtanbfhnmklhjiaaGreatDoorProg
import Derived.Shelf.Strings.BuilderK
import Derived.Shelf.Strings.BuilderRune
import Derived.Test.YtanbfhnmklhjiaaGreatDoorP25
import Derived.Lib.OthersKept
import Derived.WalkKit
import Derived.BigCall
set_option linter.all false
/- Headings by the reference: pieces, words, parts, normal forms. No condition. -/
namespace Go.Proofs
open Go Go.Ax Go.Tx Go.Lib Go.RowKit Go.Fc
set_option maxRecDepth 100000
set_option maxHeartbeats 0
variable {Γ : List (Nat × List D)}
theorem piece_grow {s : Str} {a i : Nat} (ha : a ≤ i) (hi : i < s.length) : (s.drop a).take (i - a) ++ (s.drop i).take 1 = (s.drop a).take (i + 1 - a) := by
  rw [show i + 1 - a = (i - a) + 1 by omega, List.take_add, List.drop_drop, show a + (i - a) = i by omega]
theorem c196 (s sep : Str) (hs : s.length ≤ 4000000) (h1 : 1 ≤ sep.length) (h2 : sep.length ≤ 1000) : AFn Tryz.prog Γ 196 [.c (.d (.str s)), .c (.d (.str sep))] [.d (.lst 1 ((splF s sep).map Fc.sD))] := by
  generalize hR : splF s sep = R
  refine AFn.vc [] Tryz.func196 rfl Tryz.mixed (by kernel_rfl) Tryz.ntmps196 Tryz.results196 (by simp) ?_
  push_cast
  refine LoopV.of Tryz.mixed [0, 1] (S := List Str × Nat × Nat) (fun q => [(5, .c (.own 0 q.1.length)), (6, .c (.d (.int .i64 q.2.1))), (7, .c (.d (.int .i64 q.2.2)))]) (fun q => [.row 9 1 (q.1.map Fc.sD) q.1.length]) (fun q => q.2.1 ≤ q.2.2 ∧ q.2.2 ≤ s.length ∧ q.1.length ≤ q.2.2 ∧ R = q.1 ++ splR sep ((s.drop q.2.1).take (q.2.2 - q.2.1)) (s.drop q.2.2)) (fun q => s.length - q.2.2) ([], 0, 0) (by simp [← hR, splF, splR]) (by push_cast) ?_
  rintro ⟨o, a, i⟩ ⟨hai, hi, ho, hinv⟩
  simp only at hai hi ho hinv
  push_cast
  have e1 : ((i : Int) + (sep.length : Int)).toNat = i + sep.length := by omega
  rw [e1]
  refine ⟨by omega, fun h => ⟨by omega, by omega, ⟨by omega, by omega⟩, fun e => ?_, fun e => ?_⟩, fun h => ?_⟩
  · rw [show i + sep.length - i = sep.length by omega] at e
    rw [splR_hit h1 (by rw [List.length_drop]; omega) e, List.drop_drop] at hinv
    exact ⟨⟨hai, hi⟩, ⟨by omega, by omega⟩, by omega, (o ++ [(s.drop a).take (i - a)], i + sep.length, i + sep.length), ⟨⟨Nat.le_refl _, by show i + sep.length ≤ _; omega, by simp; omega, by rw [hinv]; simp⟩, by show s.length - (i + sep.length) < _; omega⟩, ⟨by simp, by push_cast, by push_cast⟩, by simp [Fc.sD], by simp⟩
  · rw [show i + sep.length - i = sep.length by omega] at e
    rw [splR_miss h1 (by rw [List.length_drop]; omega) e, piece_grow hai (by omega), List.drop_drop] at hinv
    exact ⟨by omega, (o, a, i + 1), ⟨⟨by show a ≤ i + 1; omega, by show i + 1 ≤ _; omega, by show o.length ≤ i + 1; omega, hinv⟩, by show s.length - (i + 1) < _; omega⟩, ⟨rfl, rfl, by push_cast⟩, rfl, rfl⟩
  · rw [splR_end h1 (by rw [List.length_drop]; omega)] at hinv
    have e2 : (s.drop a).take (i - a) ++ s.drop i = s.drop a := by
      have := List.take_append_drop (i - a) (s.drop a)
      rwa [List.drop_drop, show a + (i - a) = i by omega] at this
    rw [e2] at hinv
    exact ⟨⟨by omega, by omega⟩, ⟨by omega, by omega⟩, by rw [hinv]; simp [Fc.sD]⟩
theorem c203 (c : Nat) : AFn Tryz.prog Γ 203 [.c (.d (.int .i64 c))] [.d (.bool (letterC c))] := by
  refine AFn.vc [] Tryz.func203 rfl Tryz.mixed (by kernel_rfl) Tryz.ntmps203 Tryz.results203 (by simp) ?_
  push_cast
  unfold letterC
  repeat' (first | (intro _) | (refine And.intro ?_ ?_))
  all_goals (rw [Bool.eq_iff_iff]; simp only [Bool.or_eq_true, Bool.and_eq_true, decide_eq_true_eq, true_iff]; omega)
theorem c144 (s : Str) (hs : s.length ≤ 2000000) : AFn Tryz.prog Γ 144 [.c (.d (.str s))] [.d (.lst 1 ((wordsF s).map Fc.sD))] := by
  generalize hR : wordsF s = R
  refine AFn.vc [] Tryz.func144 rfl Tryz.mixed (by kernel_rfl) Tryz.ntmps144 Tryz.results144 (by simp) ?_
  push_cast
  refine CallL.q (c192 s (by omega)) ?_
  push_cast
  have hX := foldF_len s
  unfold wordsF at hR
  generalize foldF s = X at *
  refine LoopV.nilrow 3 9 1 ?_
  push_cast
  refine LoopV.of Tryz.mixed [0] (S := List Str × Str × Nat) (fun q => [(3, .c (.own 0 q.1.length)), (4, .c (.d (.str q.2.1))), (5, .c (.d (.int .i64 q.2.2)))]) (fun q => [.row 9 1 (q.1.map Fc.sD) q.1.length]) (fun q => q.2.2 ≤ X.length ∧ q.1.length + q.2.1.length ≤ q.2.2 ∧ wEnd ((chF (X.drop q.2.2)).foldl wStep (q.1, q.2.1)) = R) (fun q => X.length - q.2.2) ([], [], 0) (by simp [hR]) (by push_cast) ?_
  rintro ⟨o, w, k⟩ ⟨hk, hl, hinv⟩
  simp only at hk hl hinv
  push_cast
  refine ⟨fun h => ?_, fun h => ?_⟩
  · have hk' : k < X.length := by omega
    refine CallL.q (c72 X k hk' (by omega)) ?_
    push_cast
    refine CallL.q (c194 X k hk' (by omega)) ?_
    push_cast
    refine CallL.q (c203 (decF (X.drop k)).1) ?_
    push_cast
    have hle := dec_at hk'
    rw [chF_at hk', List.foldl_cons] at hinv
    have hn1 : 1 ≤ max (decF (X.drop k)).2 1 := by omega
    have hn2 : k + max (decF (X.drop k)).2 1 ≤ X.length := by omega
    generalize hn : max (decF (X.drop k)).2 1 = n at *
    generalize hcc : (decF (X.drop k)).1 = c at *
    have hzn : ((k : Int) + (n : Int)).toNat - k = n := by omega
    have ht : ((X.drop k).take n).length = n := by rw [List.length_take, List.length_drop]; omega
    have c1 : (-9223372036854775808 ≤ (k : Int) + n ∧ (k : Int) + n ≤ 9223372036854775807) := ⟨by omega, by omega⟩
    have c2 : k ≤ ((k : Int) + n).toNat ∧ ((k : Int) + n).toNat ≤ X.length := ⟨by omega, by omega⟩
    have fin : ∀ (o' : List Str) (w' : Str), wStep (o, w) (c, (X.drop k).take n) = (o', w') → o'.length + w'.length ≤ k + n → ∃ s' : List Str × Str × Nat, ((s'.2.2 ≤ X.length ∧ s'.1.length + s'.2.1.length ≤ s'.2.2 ∧ wEnd ((chF (X.drop s'.2.2)).foldl wStep (s'.1, s'.2.1)) = R) ∧ X.length - s'.2.2 < X.length - k) ∧ (s'.1.length = o'.length ∧ s'.2.1 = w' ∧ (s'.2.2 : Int) = (k : Int) + n) ∧ o'.map Fc.sD = s'.1.map Fc.sD ∧ o'.length = s'.1.length := fun o' w' e hb =>
      ⟨(o', w', k + n), ⟨⟨hn2, hb, by show wEnd ((chF (X.drop (k + n))).foldl wStep (o', w')) = R; rw [← e]; exact hinv⟩, by show X.length - (k + n) < _; omega⟩, ⟨rfl, rfl, by show ((k + n : Nat) : Int) = _; omega⟩, rfl, rfl⟩
    rw [hzn]
    refine ⟨fun e => ⟨c1, by omega, c2, by omega, c1, fin o _ (by unfold wStep; rw [if_pos e]) (by rw [List.length_append, ht]; omega)⟩, fun e => ⟨fun f => ⟨⟨by omega, by omega⟩, c1, ?_⟩, fun f => ⟨c1, fin o w (by unfold wStep; rw [if_neg (by simp [e]), if_pos f]) (by omega)⟩⟩⟩
    have hw := List.length_pos_iff.2 f
    have := fin (o ++ [w]) [] (by unfold wStep; rw [if_neg (by simp [e]), if_neg f]) (by simp; omega)
    simpa [Fc.sD] using this
  · rw [List.drop_eq_nil_of_le (by omega), chF_nil] at hinv
    have hinv : wEnd (o, w) = R := hinv
    unfold wEnd at hinv
    refine ⟨fun f => ⟨⟨by omega, by omega⟩, ?_⟩, fun f => ?_⟩
    · rw [if_neg f] at hinv
      rw [← hinv]; simp [Fc.sD]
    · rw [if_pos f] at hinv
      rw [← hinv]
theorem c143 (l : List Str) (sep : Str) (hl : l.length ≤ 9000000) (hlen : (Lib.join l sep).length ≤ 1000000000000000) : AFn Tryz.prog Γ 143 [.c (.bor 1 (l.map Fc.sD)), .c (.d (.str sep))] [.d (.str (Lib.join l sep))] := by
  refine AFn.vc [] Tryz.func143 rfl Tryz.mixed (by kernel_rfl) Tryz.ntmps143 Tryz.results143 (by simp) ?_
  push_cast
  refine LoopV.cnt Tryz.mixed [0, 1] l.length (fun k => [(5, .c (.d (.str (Lib.join (l.take k) sep)))), (6, .c (.d (.int .i64 k)))]) (fun k => True) trivial ?_ (by push_cast; rfl)
  intro k hk _
  push_cast
  refine ⟨fun h => ?_, fun h => by rw [List.take_of_length_le (by omega)]⟩
  have hlt : k < l.length := by omega
  have hn := join_next sep hlt
  have h1 := join_len_take l sep (k + 1)
  rw [hn] at h1
  refine ⟨fun h0 => ?_, fun h0 => ?_⟩
  · rw [if_neg (by omega)] at hn h1
    simp only [List.length_append] at h1
    exact ⟨by omega, hlt, by omega, by omega, hlt, hn⟩
  · obtain rfl : k = 0 := by omega
    rw [if_pos rfl] at hn h1
    simp only [List.take_zero, Lib.join_nil, List.length_nil, List.nil_append]
    exact ⟨hlt, by omega, by omega, hlt, hn⟩
theorem filt_next {f : Str → Str} {l : List Str} {k : Nat} (h : k < l.length) : ((l.take (k + 1)).map f).filter neS = if f l[k] = [] then ((l.take k).map f).filter neS else ((l.take k).map f).filter neS ++ [f l[k]] := by
  rw [Fc.take_next h, List.map_append, List.filter_append]
  by_cases e : f l[k] = []
  · rw [if_pos e]; simp [e, neS]
  · rw [if_neg e]; simp [e, neS]
theorem filt_len (f : Str → Str) (l : List Str) (k : Nat) : (((l.take k).map f).filter neS).length ≤ k := by
  refine Nat.le_trans (List.length_filter_le _ _) ?_
  rw [List.length_map, List.length_take]; omega
theorem c136 (s : Str) (hs : s.length ≤ 2000000) : AFn Tryz.prog Γ 136 [.c (.d (.str s))] [.d (.lst 1 ((partsF s).map Fc.sD))] := by
  generalize hR : partsF s = R
  refine AFn.vc [] Tryz.func136 rfl Tryz.mixed (by kernel_rfl) Tryz.ntmps136 Tryz.results136 (by simp) ?_
  push_cast
  refine CallL.q (c196 s [45, 45] (by omega) (by decide) (by decide)) ?_
  push_cast
  obtain ⟨h1, h2⟩ := splF_len (l := s) (sep := [45, 45]) (by decide)
  unfold partsF at hR
  generalize splF s [45, 45] = L at *
  refine LoopV.cntH Tryz.mixed [3] L.length (fun k => [(4, .c (.own 0 (((L.take k).map cleanF).filter neS).length)), (5, .c (.d (.int .i64 k)))]) (fun k => [.row 9 1 ((((L.take k).map cleanF).filter neS).map Fc.sD) (((L.take k).map cleanF).filter neS).length]) (fun _ => True) trivial ?_ (by push_cast; exact ⟨rfl, rfl, rfl⟩)
  intro k hk _
  push_cast
  refine ⟨fun h => ?_, fun h => ?_⟩
  · have hlt : k < L.length := by omega
    refine ⟨hlt, ?_⟩
    refine CallL.q (c134 L[k] (by have := h2 _ (List.getElem_mem hlt); omega)) ?_
    push_cast
    have hn := filt_next (f := cleanF) hlt
    have hb := filt_len cleanF L k
    refine ⟨fun e => ?_, fun e => ?_⟩
    · rw [if_neg e] at hn
      exact ⟨⟨by omega, by omega⟩, by omega, hlt, by rw [hn]; simp, by rw [hn]; simp [Fc.sD], by rw [hn]; simp⟩
    · rw [if_pos e] at hn
      exact ⟨by omega, hlt, by rw [hn], by rw [hn], by rw [hn]⟩
  · rw [List.take_of_length_le (by omega), hR]
theorem join_words (p : Str) : (wordJ p).length ≤ 4 * p.length := by
  obtain ⟨h1, h2, _⟩ := wordsF_len p
  have h3 := join_sum [32] (wordsF p)
  have h4 := foldF_len p
  unfold wordJ
  simp only [List.length_cons, List.length_nil, Nat.mul_one] at h3
  omega
theorem normF_len {s : Str} (hs : s.length ≤ 2000000) : (normF s).length ≤ 1000000000000000 := by
  obtain ⟨h1, h2⟩ := partsF_len s
  have h3 := join_bd2 (K := 8000000) [45, 45] (((partsF s).map wordJ).filter neS) (fun v hv => by
    obtain ⟨p, hp, rfl⟩ := List.mem_map.1 (List.mem_filter.1 hv).1
    have := h2 p hp
    have := join_words p
    omega)
  have h4 := List.length_filter_le neS ((partsF s).map wordJ)
  rw [List.length_map] at h4
  have h5 : (((partsF s).map wordJ).filter neS).length * (8000000 + ([45, 45] : Str).length) ≤ 2000001 * 8000002 := Nat.mul_le_mul (by omega) (by decide)
  unfold normF
  omega
theorem c81 (s : Str) (hs : s.length ≤ 2000000) : AFn Tryz.prog Γ 81 [.c (.d (.str s))] [.d (.str (normF s))] := by
  have hl := normF_len hs
  generalize hR : normF s = R at *
  refine AFn.vc [] Tryz.func81 rfl Tryz.mixed (by kernel_rfl) Tryz.ntmps81 Tryz.results81 (by simp) ?_
  push_cast
  refine CallL.q (c136 s (by omega)) ?_
  push_cast
  obtain ⟨h1, h2⟩ := partsF_len s
  unfold normF at hR
  generalize partsF s = L at *
  refine LoopV.cntH Tryz.mixed [3] L.length (fun k => [(4, .c (.own 0 (((L.take k).map wordJ).filter neS).length)), (5, .c (.d (.int .i64 k)))]) (fun k => [.row 9 1 ((((L.take k).map wordJ).filter neS).map Fc.sD) (((L.take k).map wordJ).filter neS).length]) (fun _ => True) trivial ?_ (by push_cast; exact ⟨rfl, rfl, rfl⟩)
  intro k hk _
  push_cast
  refine ⟨fun h => ?_, fun h => ?_⟩
  · have hlt : k < L.length := by omega
    have hL := h2 _ (List.getElem_mem hlt)
    refine ⟨hlt, ?_⟩
    refine CallL.q (c144 L[k] (by omega)) ?_
    push_cast
    obtain ⟨_, w2, _⟩ := wordsF_len L[k]
    have w3 := foldF_len L[k]
    have w4 : (Lib.join (wordsF L[k]) [32]).length ≤ _ := join_words L[k]
    refine CallL.q (c143 (wordsF L[k]) [32] (by omega) (by omega)) ?_
    push_cast
    have hn := filt_next (f := wordJ) hlt
    rw [show wordJ L[k] = Lib.join (wordsF L[k]) [32] from rfl] at hn
    have hb := filt_len wordJ L k
    refine ⟨fun e => ?_, fun e => ?_⟩
    · rw [if_neg e] at hn
      exact ⟨⟨by omega, by omega⟩, by omega, hlt, by rw [hn]; simp, by rw [hn]; simp [Fc.sD], by rw [hn]; simp⟩
    · rw [if_pos e] at hn
      exact ⟨by omega, hlt, by rw [hn], by rw [hn], by rw [hn]⟩
  · rw [List.take_of_length_le (by omega)]
    have hb := filt_len wordJ L L.length
    rw [List.take_of_length_le (Nat.le_refl _)] at hb
    refine CallL.q (c143 ((L.map wordJ).filter neS) [45, 45] (by omega) (by rw [hR]; exact hl)) ?_
    push_cast
    rw [hR]
end Go.Proofs

/-
  DERIVED: THE SHELF's CONTRACTS AT THIS DUMP, IN PLAIN WORDS (tools/lay-plain.mjs out of 'TryzShelf.lean', which tools/lay-shelf.mjs wrote): THE SAME DECLARATIONS UNDER THE SAME NAMES: 'import', 'namespace', 'open', 'def', 'theorem' AND NOTHING ELSE: no command of the shelf's: FOR A HAND-IN. Each laying: the table of numbers ('.._ren') and one theorem, a field a fact of the dump's own or the kernel's comparison; each contract: ONE APPLICATION.
-/
namespace Go.Proofs
open Go.Shelf
def Tryz.lays143_ren : Go.Shelf.Ren := ⟨fun | 143 => 281 | 219 => 296 | 217 => 275 | 225 => 300 | 224 => 301 | 267 => 302 | 266 => 292 | 314 => 303 | n => n, fun | 9 => 9 | 3 => 3 | 4 => 4 | 5 => 5 | 46 => 149 | 146 => 283 | 51 => 189 | n => n, fun | 1 => 0 | n => n⟩
theorem Tryz.lays143 : Go.Proofs.Lays.n143 Tryz.prog Tryz.lays143_ren := {
  mixed := by kernel_rfl
  f143 := Tryz.func281.trans (congrArg some (by kernel_rfl))
  f217 := Tryz.func275.trans (congrArg some (by kernel_rfl))
  f219 := Tryz.func296.trans (congrArg some (by kernel_rfl))
  f224 := Tryz.func301.trans (congrArg some (by kernel_rfl))
  f225 := Tryz.func300.trans (congrArg some (by kernel_rfl))
  f266 := Tryz.func292.trans (congrArg some (by kernel_rfl))
  f267 := Tryz.func302.trans (congrArg some (by kernel_rfl))
  f314 := Tryz.func303.trans (congrArg some (by kernel_rfl))
  t3 := Tryz.underlying3
  a3 := Tryz.isAgg3
  z3 := Tryz.sizeOf3
  v3 := Tryz.zeroValue3
  t4 := Tryz.underlying4
  a4 := Tryz.isAgg4
  z4 := Tryz.sizeOf4
  v4 := Tryz.zeroValue4
  t5 := Tryz.underlying5
  a5 := Tryz.isAgg5
  z5 := Tryz.sizeOf5
  v5 := Tryz.zeroValue5
  t9 := Tryz.underlying9
  a9 := Tryz.isAgg9
  z9 := Tryz.sizeOf9
  v9 := Tryz.zeroValue9
  t46 := Tryz.underlying149
  a46 := Tryz.isAgg149
  z46 := Tryz.sizeOf149
  v46 := Tryz.zeroValue149
  t51 := Tryz.underlying189
  a51 := Tryz.isAgg189
  z51 := Tryz.sizeOf189
  v51 := Tryz.zeroValue189
  t146 := Tryz.underlying283
  a146 := Tryz.isAgg283
  z146 := Tryz.sizeOf283
  v146 := Tryz.zeroValue283
  g1 := by kernel_rfl }
open Go.RowKit Go.Lib in
/-- strings.Index: "Index returns the index of the first instance of substr in s, or -1 if substr is not present in s.": AT A substr OF ONE BYTE c: IT RETURNS 'Lib.indexByte s c'; the world is as it was. (LAID: no walk: one application.) -/
theorem Tryz.strings_Index_one (s : ByteArray) (c : UInt8) (w : World) :
    Calls Tryz.prog 281 #[.string s, .string ⟨#[c]⟩] w fun e w' => e = .returned (.int .i64 (Lib.indexByte s.data.toList c)) ∧ w' = w := Any.strings_Index_one Tryz.lays143 s c w
def Tryz.lays138_ren : Go.Shelf.Ren := ⟨fun | 138 => 280 | 195 => 293 | 218 => 295 | 143 => 281 | 219 => 296 | 217 => 275 | 225 => 300 | 224 => 301 | 267 => 302 | 266 => 292 | 314 => 303 | n => n, fun | 9 => 9 | 3 => 3 | 4 => 4 | 5 => 5 | 0 => 0 | 46 => 149 | 146 => 283 | 51 => 189 | n => n, fun | 1 => 0 | n => n⟩
theorem Tryz.lays138 : Go.Proofs.Lays.n138 Tryz.prog Tryz.lays138_ren := {
  mixed := by kernel_rfl
  f138 := Tryz.func280.trans (congrArg some (by kernel_rfl))
  f143 := Tryz.func281.trans (congrArg some (by kernel_rfl))
  f195 := Tryz.func293.trans (congrArg some (by kernel_rfl))
  f217 := Tryz.func275.trans (congrArg some (by kernel_rfl))
  f218 := Tryz.func295.trans (congrArg some (by kernel_rfl))
  f219 := Tryz.func296.trans (congrArg some (by kernel_rfl))
  f224 := Tryz.func301.trans (congrArg some (by kernel_rfl))
  f225 := Tryz.func300.trans (congrArg some (by kernel_rfl))
  f266 := Tryz.func292.trans (congrArg some (by kernel_rfl))
  f267 := Tryz.func302.trans (congrArg some (by kernel_rfl))
  f314 := Tryz.func303.trans (congrArg some (by kernel_rfl))
  t0 := Tryz.underlying0
  a0 := Tryz.isAgg0
  z0 := Tryz.sizeOf0
  v0 := Tryz.zeroValue0
  t3 := Tryz.underlying3
  a3 := Tryz.isAgg3
  z3 := Tryz.sizeOf3
  v3 := Tryz.zeroValue3
  t4 := Tryz.underlying4
  a4 := Tryz.isAgg4
  z4 := Tryz.sizeOf4
  v4 := Tryz.zeroValue4
  t5 := Tryz.underlying5
  a5 := Tryz.isAgg5
  z5 := Tryz.sizeOf5
  v5 := Tryz.zeroValue5
  t9 := Tryz.underlying9
  a9 := Tryz.isAgg9
  z9 := Tryz.sizeOf9
  v9 := Tryz.zeroValue9
  t46 := Tryz.underlying149
  a46 := Tryz.isAgg149
  z46 := Tryz.sizeOf149
  v46 := Tryz.zeroValue149
  t51 := Tryz.underlying189
  a51 := Tryz.isAgg189
  z51 := Tryz.sizeOf189
  v51 := Tryz.zeroValue189
  t146 := Tryz.underlying283
  a146 := Tryz.isAgg283
  z146 := Tryz.sizeOf283
  v146 := Tryz.zeroValue283
  g1 := by kernel_rfl }
open Go.RowKit Go.Lib in
/-- strings.Count AT A substr OF ONE BYTE ('hp'): "Count counts the number of non-overlapping instances of substr in s.": IT RETURNS 'Lib.countByte s (that byte)'; the world is as it was. ✋ NO CONTRACT HERE YET at an empty substr (utf8.RuneCountInString) or at a longer one (a loop over strings.Index). (LAID: no walk: one application.) -/
theorem Tryz.strings_Count_one (s : ByteArray) (c : UInt8) (w : World) :
    Calls Tryz.prog 280 #[.string s, .string ⟨#[c]⟩] w fun e w' => e = .returned (.int .i64 (Lib.countByte s.data.toList c)) ∧ w' = w := Any.strings_Count_one Tryz.lays138 s c w
def Tryz.lays221_ren : Go.Shelf.Ren := ⟨fun | 221 => 253 | 268 => 279 | 138 => 280 | 143 => 281 | 195 => 293 | 197 => 294 | 218 => 295 | 219 => 296 | 260 => 299 | 217 => 275 | 225 => 300 | 224 => 301 | 267 => 302 | 266 => 292 | 314 => 303 | n => n, fun | 9 => 9 | 3 => 3 | 31 => 42 | 4 => 4 | 0 => 0 | 105 => 279 | 21 => 21 | 5 => 5 | 46 => 149 | 119 => 268 | 139 => 271 | 138 => 270 | 146 => 283 | 51 => 189 | n => n, fun | 1 => 0 | 3 => 2 | 4 => 3 | n => n⟩
theorem Tryz.lays221 : Go.Proofs.Lays.n221 Tryz.prog Tryz.lays221_ren := {
  mixed := by kernel_rfl
  f138 := Tryz.func280.trans (congrArg some (by kernel_rfl))
  f143 := Tryz.func281.trans (congrArg some (by kernel_rfl))
  f195 := Tryz.func293.trans (congrArg some (by kernel_rfl))
  f197 := Tryz.func294.trans (congrArg some (by kernel_rfl))
  f217 := Tryz.func275.trans (congrArg some (by kernel_rfl))
  f218 := Tryz.func295.trans (congrArg some (by kernel_rfl))
  f219 := Tryz.func296.trans (congrArg some (by kernel_rfl))
  f221 := Tryz.func253.trans (congrArg some (by kernel_rfl))
  f224 := Tryz.func301.trans (congrArg some (by kernel_rfl))
  f225 := Tryz.func300.trans (congrArg some (by kernel_rfl))
  f260 := Tryz.func299.trans (congrArg some (by kernel_rfl))
  f266 := Tryz.func292.trans (congrArg some (by kernel_rfl))
  f267 := Tryz.func302.trans (congrArg some (by kernel_rfl))
  f268 := Tryz.func279.trans (congrArg some (by kernel_rfl))
  f314 := Tryz.func303.trans (congrArg some (by kernel_rfl))
  t0 := Tryz.underlying0
  a0 := Tryz.isAgg0
  z0 := Tryz.sizeOf0
  v0 := Tryz.zeroValue0
  t3 := Tryz.underlying3
  a3 := Tryz.isAgg3
  z3 := Tryz.sizeOf3
  v3 := Tryz.zeroValue3
  t4 := Tryz.underlying4
  a4 := Tryz.isAgg4
  z4 := Tryz.sizeOf4
  v4 := Tryz.zeroValue4
  t5 := Tryz.underlying5
  a5 := Tryz.isAgg5
  z5 := Tryz.sizeOf5
  v5 := Tryz.zeroValue5
  t9 := Tryz.underlying9
  a9 := Tryz.isAgg9
  z9 := Tryz.sizeOf9
  v9 := Tryz.zeroValue9
  t21 := Tryz.underlying21
  a21 := Tryz.isAgg21
  z21 := Tryz.sizeOf21
  v21 := Tryz.zeroValue21
  t31 := Tryz.underlying42
  a31 := Tryz.isAgg42
  z31 := Tryz.sizeOf42
  v31 := Tryz.zeroValue42
  t46 := Tryz.underlying149
  a46 := Tryz.isAgg149
  z46 := Tryz.sizeOf149
  v46 := Tryz.zeroValue149
  t51 := Tryz.underlying189
  a51 := Tryz.isAgg189
  z51 := Tryz.sizeOf189
  v51 := Tryz.zeroValue189
  t105 := Tryz.underlying279
  a105 := Tryz.isAgg279
  z105 := Tryz.sizeOf279
  v105 := Tryz.zeroValue279
  t119 := Tryz.underlying268
  a119 := Tryz.isAgg268
  z119 := Tryz.sizeOf268
  t138 := Tryz.underlying270
  a138 := Tryz.isAgg270
  z138 := Tryz.sizeOf270
  v138 := Tryz.zeroValue270
  t139 := Tryz.underlying271
  a139 := Tryz.isAgg271
  z139 := Tryz.sizeOf271
  v139 := Tryz.zeroValue271
  t146 := Tryz.underlying283
  a146 := Tryz.isAgg283
  z146 := Tryz.sizeOf283
  v146 := Tryz.zeroValue283
  g1 := by kernel_rfl
  g3 := by kernel_rfl
  g4 := by kernel_rfl }
end Go.Proofs

/- The builder's contracts laid at this dump. No condition. -/
namespace Go.Proofs
open Go.Shelf Go.RowKit
def Tryz.laysBld_ren : Go.Shelf.Ren := ⟨fun | 156 => 142 | 165 => 201 | 166 => 202 | 167 => 186 | 168 => 187 | 169 => 188 | 170 => 185 | 240 => 250 | 241 => 255 | 242 => 251 | 276 => 277 | 277 => 282 | 278 => 278 | n => n, fun | 31 => 42 | 9 => 9 | 3 => 3 | 4 => 4 | 0 => 0 | 20 => 20 | 21 => 21 | 46 => 149 | 51 => 189 | 72 => 194 | 76 => 199 | 70 => 191 | 37 => 192 | 75 => 197 | 127 => 245 | 164 => 263 | 5 => 5 | 80 => 201 | n => n, fun | n => n⟩
theorem Tryz.laysBld166 : Go.Proofs.Lays.n166 Tryz.prog Tryz.laysBld_ren := {
  mixed := by kernel_rfl
  f166 := Tryz.func202.trans (congrArg some (by kernel_rfl))
  f240 := Tryz.func250.trans (congrArg some (by kernel_rfl))
  f276 := Tryz.func277.trans (congrArg some (by kernel_rfl))
  t0 := Tryz.underlying0
  a0 := Tryz.isAgg0
  z0 := Tryz.sizeOf0
  v0 := Tryz.zeroValue0
  t3 := Tryz.underlying3
  a3 := Tryz.isAgg3
  z3 := Tryz.sizeOf3
  v3 := Tryz.zeroValue3
  t4 := Tryz.underlying4
  a4 := Tryz.isAgg4
  z4 := Tryz.sizeOf4
  v4 := Tryz.zeroValue4
  t9 := Tryz.underlying9
  a9 := Tryz.isAgg9
  z9 := Tryz.sizeOf9
  v9 := Tryz.zeroValue9
  t20 := Tryz.underlying20
  a20 := Tryz.isAgg20
  z20 := Tryz.sizeOf20
  v20 := Tryz.zeroValue20
  t37 := Tryz.underlying192
  a37 := Tryz.isAgg192
  z37 := Tryz.sizeOf192
  v37 := Tryz.zeroValue192
  t70 := Tryz.underlying191
  a70 := Tryz.isAgg191
  z70 := Tryz.sizeOf191
  v70 := Tryz.zeroValue191
  t72 := Tryz.underlying194
  a72 := Tryz.isAgg194
  z72 := Tryz.sizeOf194
  v72 := Tryz.zeroValue194
  t75 := Tryz.underlying197
  a75 := Tryz.isAgg197
  z75 := Tryz.sizeOf197
  v75 := Tryz.zeroValue197
  t164 := Tryz.underlying263
  a164 := Tryz.isAgg263
  z164 := Tryz.sizeOf263
  v164 := Tryz.zeroValue263 }
theorem Tryz.laysBld168 : Go.Proofs.Lays.n168 Tryz.prog Tryz.laysBld_ren := {
  mixed := by kernel_rfl
  f168 := Tryz.func187.trans (congrArg some (by kernel_rfl))
  f240 := Tryz.func250.trans (congrArg some (by kernel_rfl))
  f242 := Tryz.func251.trans (congrArg some (by kernel_rfl))
  f276 := Tryz.func277.trans (congrArg some (by kernel_rfl))
  f278 := Tryz.func278.trans (congrArg some (by kernel_rfl))
  t0 := Tryz.underlying0
  a0 := Tryz.isAgg0
  z0 := Tryz.sizeOf0
  v0 := Tryz.zeroValue0
  t3 := Tryz.underlying3
  a3 := Tryz.isAgg3
  z3 := Tryz.sizeOf3
  v3 := Tryz.zeroValue3
  t4 := Tryz.underlying4
  a4 := Tryz.isAgg4
  z4 := Tryz.sizeOf4
  v4 := Tryz.zeroValue4
  t5 := Tryz.underlying5
  a5 := Tryz.isAgg5
  z5 := Tryz.sizeOf5
  v5 := Tryz.zeroValue5
  t9 := Tryz.underlying9
  a9 := Tryz.isAgg9
  z9 := Tryz.sizeOf9
  v9 := Tryz.zeroValue9
  t20 := Tryz.underlying20
  a20 := Tryz.isAgg20
  z20 := Tryz.sizeOf20
  v20 := Tryz.zeroValue20
  t21 := Tryz.underlying21
  a21 := Tryz.isAgg21
  z21 := Tryz.sizeOf21
  v21 := Tryz.zeroValue21
  t37 := Tryz.underlying192
  a37 := Tryz.isAgg192
  z37 := Tryz.sizeOf192
  v37 := Tryz.zeroValue192
  t46 := Tryz.underlying149
  a46 := Tryz.isAgg149
  z46 := Tryz.sizeOf149
  v46 := Tryz.zeroValue149
  t51 := Tryz.underlying189
  a51 := Tryz.isAgg189
  z51 := Tryz.sizeOf189
  v51 := Tryz.zeroValue189
  t70 := Tryz.underlying191
  a70 := Tryz.isAgg191
  z70 := Tryz.sizeOf191
  v70 := Tryz.zeroValue191
  t72 := Tryz.underlying194
  a72 := Tryz.isAgg194
  z72 := Tryz.sizeOf194
  v72 := Tryz.zeroValue194
  t75 := Tryz.underlying197
  a75 := Tryz.isAgg197
  z75 := Tryz.sizeOf197
  v75 := Tryz.zeroValue197
  t164 := Tryz.underlying263
  a164 := Tryz.isAgg263
  z164 := Tryz.sizeOf263
  v164 := Tryz.zeroValue263 }
theorem Tryz.laysBld169 : Go.Proofs.Lays.n169 Tryz.prog Tryz.laysBld_ren := {
  mixed := by kernel_rfl
  f169 := Tryz.func188.trans (congrArg some (by kernel_rfl))
  t0 := Tryz.underlying0
  a0 := Tryz.isAgg0
  z0 := Tryz.sizeOf0
  v0 := Tryz.zeroValue0
  t3 := Tryz.underlying3
  a3 := Tryz.isAgg3
  z3 := Tryz.sizeOf3
  v3 := Tryz.zeroValue3
  t9 := Tryz.underlying9
  a9 := Tryz.isAgg9
  z9 := Tryz.sizeOf9
  v9 := Tryz.zeroValue9
  t37 := Tryz.underlying192
  a37 := Tryz.isAgg192
  z37 := Tryz.sizeOf192
  v37 := Tryz.zeroValue192
  t70 := Tryz.underlying191
  a70 := Tryz.isAgg191
  z70 := Tryz.sizeOf191
  v70 := Tryz.zeroValue191
  t72 := Tryz.underlying194
  a72 := Tryz.isAgg194
  z72 := Tryz.sizeOf194
  v72 := Tryz.zeroValue194
  t127 := Tryz.underlying245
  a127 := Tryz.isAgg245
  z127 := Tryz.sizeOf245
  v127 := Tryz.zeroValue245 }
theorem Tryz.bldX : Builder.Extra Tryz.prog Tryz.laysBld_ren := {
  sizeBuilder := by kernel_rfl
  liesBuilder := by kernel_rfl
  t5 := Tryz.underlying5
  a5 := Tryz.isAgg5
  z5 := Tryz.sizeOf5
  v5 := Tryz.zeroValue5
  infoByte := by kernel_rfl
  cellsByte := by kernel_rfl
  sizeByte := by kernel_rfl
  neB5 := by decide }
end Go.Proofs

/- Texts made by a builder: the program's replacing. No condition. -/
namespace Go.Proofs
open Go Go.Ax Go.Tx Go.Lib Go.RowKit Go.Fc Go.Shelf
set_option maxRecDepth 1000000
set_option maxHeartbeats 0
theorem Tryz.bStr (B b : Nat) (bs : List Value) (s : ByteArray) (w : World) (h : Lib.IsBuilderF 194 5 B b bs w) (hlen : bs.length + s.size ≤ 140737488355328) (hBw : B ≤ w.heap.size) :
    Calls Tryz.prog 202 #[.pointer (some ⟨b, 0, none⟩), .string s] w fun e w' => e = .returned (.tuple #[.int .i64 s.size, .nilIface]) ∧ (Lib.BuilderAtF 194 5 B b (.pointer (some ⟨b, 0, none⟩)) (bs ++ Lib.byteCells s.data.toList) w' ∧ Below B w w' ∧ Lib.OthersKept 5 (some b) w w') := Any.Builder_WriteString_k Tryz.laysBld166 Tryz.bldX B b bs s w h hlen hBw
theorem Tryz.bRune (B b : Nat) (bs : List Value) (r : Int) (hr0 : -2147483648 ≤ r) (hr1 : r ≤ 2147483647) (w : World) (h : Lib.IsBuilderF 194 5 B b bs w) (hlen : bs.length + 4 ≤ 140737488355328) (hBw : B ≤ w.heap.size) :
    Calls Tryz.prog 187 #[.pointer (some ⟨b, 0, none⟩), .int .i32 r] w fun e w' => e = .returned (.tuple #[.int .i64 (Lib.runeCells r).length, .nilIface]) ∧ (Lib.BuilderAtF 194 5 B b (.pointer (some ⟨b, 0, none⟩)) (bs ++ Lib.runeCells r) w' ∧ Below B w w' ∧ Lib.OthersKept 5 (some b) w w') := Any.Builder_WriteRune_k Tryz.laysBld168 Tryz.bldX B b bs r hr0 hr1 w h hlen hBw
theorem Tryz.bString (B b : Nat) (l : List UInt8) (w : World) (h : Lib.IsBuilderF 194 5 B b (Lib.byteCells l) w) (hBw : B ≤ w.heap.size) :
    Calls Tryz.prog 188 #[.pointer (some ⟨b, 0, none⟩)] w fun e w' => e = .returned (.string ⟨l.toArray⟩) ∧ (Lib.IsBuilderF 194 5 B b (Lib.byteCells l) w' ∧ Below B w w' ∧ Lib.OthersKept 5 (some b) w w') := Any.Builder_String_any_k Tryz.laysBld169 Tryz.bldX B b l w h hBw
def Hid (p : Prop) : Prop := p
theorem Hid.out {p : Prop} (h : Hid p) : p := h
end Go.Proofs

/- The table of folded letters: a constant split at its commas. No condition. -/
namespace Go.Proofs
open Go Go.Ax Go.Tx Go.Lib Go.RowKit Go.Fc Go.Shelf
set_option maxRecDepth 1000000
set_option maxHeartbeats 0
theorem w253 (s : ByteArray) (c : UInt8) (w : World) (hs : s.size < 4294967281) :
    Calls Tryz.prog 253 #[.string s, .string ⟨#[c]⟩, .int .i64 0, .int .i64 (-1)] w fun e w' =>
      e = .returned (.slice (some ⟨w.heap.size, 0, none⟩) (Lib.countB s ⟨#[c]⟩ + 1) (Lib.countB s ⟨#[c]⟩ + 1)) ∧ w' = w.alloc (.cells ((Lib.splitB ⟨#[c]⟩ 0 (Lib.countB s ⟨#[c]⟩) s).map Value.string).toArray 9) := by
  have h1 : 1 ≤ (⟨#[c]⟩ : ByteArray).size := Nat.le_refl 1
  have hle := Lib.countB_le ⟨#[c]⟩ h1 s.size s (Nat.le_refl _)
  have hlen := Lib.splitB_all ⟨#[c]⟩ h1 0 _ s rfl
  have k := Any.strings_genSplit_core Tryz.lays221 (by kernel_rfl) s ⟨#[c]⟩ 0 (-1) (Lib.countB s ⟨#[c]⟩ + 1) w hs h1 (Nat.zero_le _)
    (fun x cs _ => (Tryz.strings_Index_one x c _).mono fun e w' ⟨he, hw⟩ => ⟨by rw [he]; show _ = Ending.returned (Value.int .i64 (Lib.index x.data.toList [c])); rw [Lib.index_one], hw⟩)
    ((Tryz.strings_Count_one s c w).mono fun e w' ⟨he, hw⟩ => ⟨by rw [he]; show _ = Ending.returned (Value.int .i64 ((Lib.count s.data.toList [c] : Nat) : Int)); rw [Lib.count_one]; rfl, hw⟩)
    (by decide) (by decide) (by rw [if_pos (by decide)]; omega)
  rw [Nat.add_sub_cancel, hlen] at k
  have e2 : Lib.cellsOf (Lib.splitB ⟨#[c]⟩ 0 (Lib.countB s ⟨#[c]⟩) s) (Lib.countB s ⟨#[c]⟩ + 1) = ((Lib.splitB ⟨#[c]⟩ 0 (Lib.countB s ⟨#[c]⟩) s).map Value.string).toArray := by rw [← hlen]; exact Lib.cellsOf_full _
  rw [e2] at k
  exact k
theorem w197 (s : ByteArray) (c : UInt8) (w : World) (hs : s.size < 4294967281) :
    Calls Tryz.prog 197 #[.string s, .string ⟨#[c]⟩] w fun e w' =>
      e = .returned (.slice (some ⟨w.heap.size, 0, none⟩) (Lib.countB s ⟨#[c]⟩ + 1) (Lib.countB s ⟨#[c]⟩ + 1)) ∧ w' = w.alloc (.cells ((Lib.splitB ⟨#[c]⟩ 0 (Lib.countB s ⟨#[c]⟩) s).map Value.string).toArray 9) := by
  have k := w253 s c w hs
  go_enter Tryz.func197, Tryz.ntmps197
  go_wp2_with (go_at_call 253; refine k.mono ?_; rintro e w' ⟨rfl, hw⟩; rw [hw])
  go_ret
  exact ⟨rfl, rfl⟩
def plainS : List UInt8 := "a,a,a,a,a,a,ae,c,e,e,e,e,i,i,i,i,d,n,o,o,o,o,o,,o,u,u,u,u,y,th,ss,a,a,a,a,a,a,ae,c,e,e,e,e,i,i,i,i,d,n,o,o,o,o,o,,o,u,u,u,u,y,th,y".toUTF8.data.toList
def plainL : List (List UInt8) := (List.range 64).map fun i => foldC (192 + i)
theorem plain_cnt : Lib.countB ⟨plainS.toArray⟩ ⟨#[44]⟩ = 63 := by kernel_rfl
theorem plain_len : plainS.length < 4294967281 := of_decide_eq_true (by kernel_rfl)
theorem indexByte_app (c : UInt8) : ∀ (a rest : List UInt8), c ∉ a → Lib.indexByte (a ++ c :: rest) c = a.length
  | [], rest, _ => by simp [Lib.indexByte]
  | b :: a, rest, h => by
    have hb : ¬ b = c := fun e => h (by rw [e]; exact List.mem_cons_self)
    have ih := indexByte_app c a rest fun h2 => h (List.mem_cons_of_mem _ h2)
    rw [List.cons_append]
    unfold Lib.indexByte
    rw [ih]
    simp only [beq_iff_eq, hb, if_false]
    rw [if_neg (by omega)]
    simp
theorem split_app (c : UInt8) (k : Nat) (a rest : List UInt8) (h : c ∉ a) : Lib.splitB ⟨#[c]⟩ 0 (k + 1) ⟨(a ++ c :: rest).toArray⟩ = ⟨a.toArray⟩ :: Lib.splitB ⟨#[c]⟩ 0 k ⟨rest.toArray⟩ := by
  have hi : Lib.indexB ⟨(a ++ c :: rest).toArray⟩ ⟨#[c]⟩ = a.length := by
    show Lib.index (a ++ c :: rest).toArray.toList [c] = _
    rw [Lib.index_one, List.toList_toArray, indexByte_app c a rest h]
  rw [Lib.splitB, hi, if_neg (by simp)]
  congr 1
  · apply ByteArray.ext
    rw [ByteArray.data_extract]
    simp
  · congr 1
    apply ByteArray.ext
    rw [ByteArray.data_extract]
    have e1 : (⟨#[c]⟩ : ByteArray).size = 1 := rfl
    have e2 : (⟨(a ++ c :: rest).toArray⟩ : ByteArray).size = a.length + (rest.length + 1) := by show (a ++ c :: rest).toArray.size = _; simp
    rw [e1, e2]
    simp
    exact List.take_of_length_le (by omega)
def joinC (c : UInt8) : List (List UInt8) → List UInt8
  | [] => []
  | [a] => a
  | a :: b :: l => a ++ c :: joinC c (b :: l)
theorem split_join (c : UInt8) : ∀ (a : List UInt8) (l : List (List UInt8)), (∀ x ∈ a :: l, c ∉ x) → Lib.splitB ⟨#[c]⟩ 0 l.length ⟨(joinC c (a :: l)).toArray⟩ = (a :: l).map fun x => ⟨x.toArray⟩
  | a, [], h => by simp [joinC, Lib.splitB]
  | a, b :: l, h => by
    rw [List.length_cons]
    show Lib.splitB ⟨#[c]⟩ 0 (l.length + 1) ⟨(a ++ c :: joinC c (b :: l)).toArray⟩ = _
    rw [split_app c _ a _ (h a List.mem_cons_self), split_join c b l fun x hx => h x (List.mem_cons_of_mem _ hx)]
    rfl
theorem plain_join : plainS = joinC 44 (foldC 192 :: (List.range 63).map fun i => foldC (193 + i)) := by kernel_rfl
theorem plain_no : ∀ x ∈ (foldC 192 :: (List.range 63).map fun i => foldC (193 + i)), (44 : UInt8) ∉ x := of_decide_eq_true (by kernel_rfl)
theorem plainL_eq : plainL = foldC 192 :: (List.range 63).map fun i => foldC (193 + i) := by kernel_rfl
theorem plain_split : Lib.splitB ⟨#[44]⟩ 0 63 ⟨plainS.toArray⟩ = plainL.map fun l => ⟨l.toArray⟩ := by
  rw [plain_join, plainL_eq]
  have := split_join 44 (foldC 192) ((List.range 63).map fun i => foldC (193 + i)) plain_no
  rw [List.length_map, List.length_range] at this
  exact this
end Go.Proofs
