/- Part of a proof about this program; no condition of its own. -/
import Derived.Test.YtanbfhnmklhjiaaGreatDoorGwB
import Derived.Test.YtanbfhnmklhjiaaGreatDoorGfA
set_option linter.all false
/- The reference's folding, keys and order. No condition. -/
namespace Go.Tx
open Go Go.Ax Go.Lib
theorem foldC_len (c : Nat) : (foldC c).length ≤ 2 := by
  by_cases h : c < 256
  · have key : (List.range 256).all (fun c => decide ((foldC c).length ≤ 2)) = true := by kernel_rfl
    exact of_decide_eq_true (List.all_eq_true.1 key c (List.mem_range.2 h))
  · unfold foldC
    rw [if_neg (by omega), if_pos (by omega)]
    decide
theorem chF_at {s : List UInt8} {k : Nat} (hk : k < s.length) : chF (s.drop k) = ((decF (s.drop k)).1, (s.drop k).take (max (decF (s.drop k)).2 1)) :: chF (s.drop (k + max (decF (s.drop k)).2 1)) := by
  have hne : s.drop k ≠ [] := fun e => by have := congrArg List.length e; rw [List.length_drop] at this; simp at this; omega
  rw [chF_step hne, List.drop_drop]
theorem chD_at {s : List UInt8} {k : Nat} (hk : k < s.length) : chD (s.drop k) = ((decodeL (s.drop k)).1, (s.drop k).take (decodeL (s.drop k)).2) :: chD (s.drop (k + (decodeL (s.drop k)).2)) := by
  have hne : s.drop k ≠ [] := fun e => by have := congrArg List.length e; rw [List.length_drop] at this; simp at this; omega
  rw [chD_step hne, List.drop_drop]
theorem foldC_az {c : Nat} (h1 : 65 ≤ c) (h2 : c ≤ 90) : ([97, 98, 99, 100, 101, 102, 103, 104, 105, 106, 107, 108, 109, 110, 111, 112, 113, 114, 115, 116, 117, 118, 119, 120, 121, 122].drop (c - 65)).take 1 = foldC c := by
  have key : (List.range 91).all (fun c => decide (c < 65) || decide (([97, 98, 99, 100, 101, 102, 103, 104, 105, 106, 107, 108, 109, 110, 111, 112, 113, 114, 115, 116, 117, 118, 119, 120, 121, 122].drop (c - 65)).take 1 = foldC c)) = true := by kernel_rfl
  have := List.all_eq_true.1 key c (List.mem_range.2 (by omega))
  simp only [Bool.or_eq_true, decide_eq_true_eq] at this
  rcases this with h | h
  · omega
  · exact h
theorem encR_len (c : Int) : (encodeRune c).length ≤ 4 := by
  have := runeCells_le c
  rw [runeCells_length] at this
  exact this.2
end Go.Tx
namespace Go.Proofs
open Go Go.Ax Go.Tx Go.Lib Go.RowKit Go.Fc
set_option maxRecDepth 100000
set_option maxHeartbeats 0
variable {Γ : List (Nat × List D)}
theorem c252 (c : Nat) : AFn Tryz.prog Γ 252 [.c (.d (.int .i64 c))] [.d (.str (foldC c))] := by
  refine AFn.vc [] Tryz.func252 rfl Tryz.mixed (by kernel_rfl) Tryz.ntmps252 Tryz.results252 (by simp) ?_
  push_cast
  have haz := fun h1 h2 => foldC_az (c := c) h1 h2
  generalize hF : foldC c = F at *
  unfold foldC at hF
  simp only at hF
  repeat' (first | (intro _) | (refine And.intro ?_ ?_))
  all_goals first
    | omega
    | (rw [show ((c : Int) - 65).toNat = c - 65 by omega, show ((c : Int) - 64).toNat - (c - 65) = 1 by omega]; exact haz (by omega) (by omega))
    | (rw [← hF]
       first
         | (simp only [show (if 224 ≤ c then c - 32 else c) = c - 32 from if_pos (by omega)])
         | (simp only [show (if 224 ≤ c then c - 32 else c) = c from if_neg (by omega)])
         | skip
       repeat (first | rw [if_pos (by omega)] | rw [if_neg (by omega)]))
theorem c192 (s : List UInt8) (hs : s.length ≤ 8000000) : AFn Tryz.prog Γ 192 [.c (.d (.str s))] [.d (.str (foldF s))] := by
  refine AFn.vc [] Tryz.func192 rfl Tryz.mixed (by kernel_rfl) Tryz.ntmps192 Tryz.results192 (by simp) ?_
  push_cast
  refine LoopV.of0 Tryz.mixed [0] (fun q : Nat × List UInt8 => [(3, .c (.d (.str q.2))), (4, .c (.d (.int .i64 q.1)))]) (fun q => q.1 ≤ s.length ∧ q.2 ++ (chF (s.drop q.1)).flatMap fold1 = foldF s ∧ q.2.length ≤ 2 * q.1) (fun q => s.length - q.1) (0, []) ⟨Nat.zero_le _, by simp [foldF], by simp⟩ ?_ (by push_cast)
  rintro ⟨k, out⟩ ⟨hk, hv, hl⟩
  have hk : k ≤ s.length := hk
  have hl : out.length ≤ 2 * k := hl
  have hv : out ++ (chF (s.drop k)).flatMap fold1 = foldF s := hv
  push_cast
  refine ⟨fun h => ?_, fun h => ?_⟩
  · have hk' : k < s.length := by omega
    refine CallL.q (c72 s k hk' (by omega)) ?_
    push_cast
    refine CallL.q (c194 s k hk' (by omega)) ?_
    push_cast
    refine CallL.q (c252 (decF (s.drop k)).1) ?_
    push_cast
    have hle := dec_at hk'
    rw [chF_at hk', List.flatMap_cons, ← List.append_assoc] at hv
    have hn1 : 1 ≤ max (decF (s.drop k)).2 1 := by omega
    have hn2 : k + max (decF (s.drop k)).2 1 ≤ s.length := by omega
    generalize hn : max (decF (s.drop k)).2 1 = n at *
    generalize hcc : (decF (s.drop k)).1 = c at *
    have hzn : ((k : Int) + (n : Int)).toNat - k = n := by omega
    have ht : ((s.drop k).take n).length ≤ n := by rw [List.length_take]; omega
    have hf2 := foldC_len c
    have fin : ∀ o : List UInt8, fold1 (c, (s.drop k).take n) = o → o.length ≤ 2 * n → ∃ s' : Nat × List UInt8, ((s'.1 ≤ s.length ∧ s'.2 ++ (chF (s.drop s'.1)).flatMap fold1 = foldF s ∧ s'.2.length ≤ 2 * s'.1) ∧ s.length - s'.1 < s.length - k) ∧ s'.2 = out ++ o ∧ (s'.1 : Int) = (k : Int) + n := fun o e ho =>
      ⟨(k + n, out ++ o), ⟨⟨hn2, by show out ++ o ++ _ = _; rw [← e]; exact hv, by show (out ++ o).length ≤ _; rw [List.length_append]; omega⟩, by show s.length - (k + n) < _; omega⟩, rfl, by show ((k + n : Nat) : Int) = _; omega⟩
    have c1 : (-9223372036854775808 ≤ (k : Int) + n ∧ (k : Int) + n ≤ 9223372036854775807) := ⟨by omega, by omega⟩
    have c2 : k ≤ ((k : Int) + n).toNat ∧ ((k : Int) + n).toNat ≤ s.length := ⟨by omega, by omega⟩
    rw [hzn]
    exact ⟨fun e => ⟨c1, by omega, c2, by omega, c1, fin _ (by unfold fold1; rw [if_pos e]) (by omega)⟩, fun e => ⟨by omega, c1, fin _ (by unfold fold1; rw [if_neg e]) (by omega)⟩⟩
  · rw [← hv, List.drop_eq_nil_of_le (by omega), chF_nil]
    simp
theorem c193 (c : Nat) : AFn Tryz.prog Γ 193 [.c (.d (.int .i32 c))] [.d (.bool (keyLet c))] := by
  refine AFn.vc [] Tryz.func193 rfl Tryz.mixed (by kernel_rfl) Tryz.ntmps193 Tryz.results193 (by simp) ?_
  push_cast
  unfold keyLet
  repeat' (first | (intro _) | (refine And.intro ?_ ?_))
  all_goals (rw [Bool.eq_iff_iff]; simp only [Bool.or_eq_true, Bool.and_eq_true, decide_eq_true_eq, true_iff]; omega)
theorem c191 (lang : Str) (c : Nat) : AFn Tryz.prog Γ 191 [.c (.d (.str lang)), .c (.d (.int .i32 c))] [.d (.str (repC lang c))] := by
  refine AFn.vc [] Tryz.func191 rfl Tryz.mixed (by kernel_rfl) Tryz.ntmps191 Tryz.results191 (by simp) ?_
  push_cast
  generalize hF : repC lang c = F
  repeat' (first | (intro _) | (refine And.intro ?_ ?_))
  all_goals rw [← hF]
  all_goals first
    | (unfold repC; rw [if_pos ⟨by omega, by omega⟩]; done)
    | (have hc : c = 196 := by omega
       subst hc; subst lang; rfl)
    | (have hc : c = 228 := by omega
       subst hc; subst lang; rfl)
    | (have hc : c = 214 := by omega
       subst hc; subst lang; rfl)
    | (have hc : c = 246 := by omega
       subst hc; subst lang; rfl)
    | (have hc : c = 220 := by omega
       subst hc; subst lang; rfl)
    | (have hc : c = 252 := by omega
       subst hc; subst lang; rfl)
    | (have hc : c = 197 := by omega
       subst hc; subst lang; rfl)
    | (have hc : c = 229 := by omega
       subst hc; subst lang; rfl)
    | (have hc : c = 209 := by omega
       subst hc; subst lang; rfl)
    | (have hc : c = 241 := by omega
       subst hc; subst lang; rfl)
    | (have hn : langC lang c = [] := by
         unfold langC gerC sweC spaC
         repeat' split
         all_goals first | rfl | omega | contradiction
       unfold repC
       rw [if_neg (by omega), if_pos hn])
end Go.Proofs

/- The reference's keys and order. No condition. -/
namespace Go.Tx
open Go Go.Ax Go.Lib
theorem dec_w {s : List UInt8} {k : Nat} (hk : k < s.length) : 1 ≤ (decodeL (s.drop k)).2 ∧ k + (decodeL (s.drop k)).2 ≤ s.length := by
  have hne : s.drop k ≠ [] := fun e => by have := congrArg List.length e; rw [List.length_drop] at this; simp at this; omega
  have h1 := decodeL_width (s.drop k)
  have h2 : (decodeL (s.drop k)).2 ≤ (s.drop k).length := by
    have := decodeL_le (s.drop k) hne
    exact this
  rw [List.length_drop] at h2
  omega
theorem repC_len (lang : List UInt8) (c : Nat) : (repC lang c).length ≤ 4 := by
  unfold repC
  split
  · decide
  · split
    · exact encR_len _
    · unfold langC gerC sweC spaC
      repeat' split
      all_goals decide
theorem rep_flat_len {lang : List UInt8} : ∀ (xs : List Ch), (xs.flatMap fun ch => repC lang ch.1).length ≤ 4 * xs.length
  | [] => by simp
  | x :: r => by
    have h1 := rep_flat_len (lang := lang) r
    have h2 := repC_len lang x.1
    rw [List.flatMap_cons, List.length_append, List.length_cons]
    omega
theorem chD_len : ∀ (n : Nat) (l : List UInt8), l.length ≤ n → (chD l).length ≤ l.length
  | 0, l, h => by obtain rfl : l = [] := List.length_eq_zero_iff.1 (by omega); exact Nat.le_refl _
  | n + 1, l, h => by
    by_cases hne : l = []
    · subst hne; exact Nat.le_refl _
    · have hl : 1 ≤ l.length := List.length_pos_iff.2 hne
      have hp := decodeL_width l
      have := chD_len n (l.drop (decodeL l).2) (by rw [List.length_drop]; omega)
      rw [chD_step hne, List.length_cons]
      rw [List.length_drop] at this
      omega
theorem repF_len (lang l : List UInt8) : (repF lang l).length ≤ 4 * l.length := by
  have h1 := rep_flat_len (lang := lang) (chD l)
  have h2 := chD_len _ l (Nat.le_refl _)
  unfold repF
  omega
theorem chF_len : ∀ (n : Nat) (l : List UInt8), l.length ≤ n → (chF l).length ≤ l.length
  | 0, l, h => by obtain rfl : l = [] := List.length_eq_zero_iff.1 (by omega); exact Nat.le_refl _
  | n + 1, l, h => by
    by_cases hne : l = []
    · subst hne; exact Nat.le_refl _
    · have hl : 1 ≤ l.length := List.length_pos_iff.2 hne
      have := chF_len n (l.drop (max (decF l).2 1)) (by rw [List.length_drop]; omega)
      rw [chF_step hne, List.length_cons]
      rw [List.length_drop] at this
      omega
theorem fold_flat_len : ∀ (n : Nat) (l : List UInt8), l.length ≤ n → ((chF l).flatMap fold1).length ≤ 2 * l.length
  | 0, l, h => by obtain rfl : l = [] := List.length_eq_zero_iff.1 (by omega); simp [chF, chG]
  | n + 1, l, h => by
    by_cases hne : l = []
    · subst hne; simp [chF, chG]
    · have hl : 1 ≤ l.length := List.length_pos_iff.2 hne
      have h1 := fold_flat_len n (l.drop (max (decF l).2 1)) (by rw [List.length_drop]; omega)
      have h2 := decF_le l hne
      have h3 : (fold1 ((decF l).1, l.take (max (decF l).2 1))).length ≤ 2 * max (decF l).2 1 := by
        unfold fold1
        split
        · rw [List.length_take]; omega
        · have : (foldC (decF l).1).length ≤ 2 := foldC_len (decF l).1
          show (foldC (decF l).1).length ≤ _
          omega
      rw [chF_step hne, List.flatMap_cons, List.length_append]
      rw [List.length_drop] at h1
      omega
theorem foldF_len (l : List UInt8) : (foldF l).length ≤ 2 * l.length := fold_flat_len _ l (Nat.le_refl _)
end Go.Tx
namespace Go.Proofs
open Go Go.Ax Go.Tx Go.Lib Go.RowKit Go.Fc
set_option maxRecDepth 100000
set_option maxHeartbeats 0
variable {Γ : List (Nat × List D)}
theorem c133 (lang s : Str) (hs : s.length ≤ 100000) : AFn Tryz.prog Γ 133 [.c (.d (.str lang)), .c (.d (.str s))] [.d (.str (keyR lang s))] := by
  refine AFn.vc [] Tryz.func133 rfl Tryz.mixed (by kernel_rfl) Tryz.ntmps133 Tryz.results133 (by simp) ?_
  push_cast
  refine LoopV.of Tryz.mixed [0, 13] (S := Nat × Str) (fun q => [(5, .c (.d (.str q.2)))]) (fun q => [.sit s q.1]) (fun q => q.1 ≤ s.length ∧ q.2 ++ (chD (s.drop q.1)).flatMap (fun ch => repC lang ch.1) = repF lang s ∧ q.2.length ≤ 4 * q.1) (fun q => s.length - q.1) (0, []) ⟨Nat.zero_le _, by simp [repF], by simp⟩ (by push_cast) ?_
  rintro ⟨k, out⟩ ⟨hk, hv, hl⟩
  have hk : k ≤ s.length := hk
  have hl : out.length ≤ 4 * k := hl
  have hv : out ++ (chD (s.drop k)).flatMap (fun ch => repC lang ch.1) = repF lang s := hv
  push_cast
  refine ⟨fun h => ?_, fun h => ?_⟩
  · have ek : k = s.length := by omega
    subst ek
    rw [List.drop_length, chD_nil] at hv
    simp only [List.flatMap_nil, List.append_nil] at hv
    subst hv
    have hr := repF_len lang s
    refine CallL.q (c192 (repF lang s) (by omega)) ?_
    push_cast
    unfold keyR
    have hX := foldF_len (repF lang s)
    generalize foldF (repF lang s) = X at *
    refine LoopV.of Tryz.mixed [24] (S := Nat × Str × Bool) (fun q => [(8, .c (.d (.str q.2.1))), (9, .c (.d (.bool q.2.2)))]) (fun q => [.sit s s.length, .sit X q.1]) (fun q => q.1 ≤ X.length ∧ (chD (X.drop q.1)).foldl kStep q.2 = (chD X).foldl kStep ([], false) ∧ q.2.1.length ≤ 5 * q.1) (fun q => X.length - q.1) (0, [], false) ⟨Nat.zero_le _, by simp, by simp⟩ (by push_cast) ?_
    rintro ⟨j, o, g⟩ ⟨gk, gv, gl⟩
    have gk : j ≤ X.length := gk
    have gl : o.length ≤ 5 * j := gl
    have gv : (chD (X.drop j)).foldl kStep (o, g) = (chD X).foldl kStep ([], false) := gv
    push_cast
    refine ⟨fun h => ?_, fun h => ?_⟩
    · rw [← gv, List.drop_eq_nil_of_le (by omega), chD_nil]; rfl
    · obtain ⟨w1, w2⟩ := dec_w h
      rw [chD_at h, List.foldl_cons] at gv
      have hc := encR_len ((decodeL (X.drop j)).1 : Int)
      generalize (X.drop j).take (decodeL (X.drop j)).2 = tk at *
      generalize (decodeL (X.drop j)).1 = c at *
      generalize (decodeL (X.drop j)).2 = n at *
      refine CallL.q (c193 c) ?_
      push_cast
      have fin : ∀ (o' : Str) (g' : Bool), kStep (o, g) (c, tk) = (o', g') → o'.length ≤ 5 * (j + n) → ∃ s' : Nat × Str × Bool, ((s'.1 ≤ X.length ∧ (chD (X.drop s'.1)).foldl kStep s'.2 = (chD X).foldl kStep ([], false) ∧ s'.2.1.length ≤ 5 * s'.1) ∧ X.length - s'.1 < X.length - j) ∧ s'.2.1 = o' ∧ s'.2.2 = g' ∧ s'.1 = j + n := fun o' g' e ho =>
        ⟨(j + n, o', g'), ⟨⟨w2, by show (chD (X.drop (j + n))).foldl kStep (o', g') = _; rw [← e]; exact gv, ho⟩, by show X.length - (j + n) < _; omega⟩, rfl, rfl, rfl⟩
      have fin2 : ∀ (o' : Str) (g' : Bool), kStep (o, g) (c, tk) = (o', g') → o'.length ≤ 5 * (j + n) → ∃ s' : Nat × Str × Bool, ((s'.1 ≤ X.length ∧ (chD (X.drop s'.1)).foldl kStep s'.2 = (chD X).foldl kStep ([], false) ∧ s'.2.1.length ≤ 5 * s'.1) ∧ X.length - s'.1 < X.length - j) ∧ (s'.2.1 = o' ∧ s'.2.2 = g') ∧ j + n = s'.1 := fun o' g' e ho => by
        obtain ⟨s', q1, q2, q3, q4⟩ := fin o' g' e ho
        exact ⟨s', q1, ⟨q2, q3⟩, q4.symm⟩
      have hlen : ∀ y : Str, (y ++ encodeRune (c : Int)).length ≤ y.length + 4 := fun y => by rw [List.length_append]; omega
      refine ⟨fun e => fin2 o true (by unfold kStep; rw [if_neg (by simp [e])]) (by omega), fun e => ?_⟩
      have hks : kStep (o, g) (c, tk) = ((if g = true ∧ o ≠ [] then o ++ [32] else o) ++ encodeRune (c : Int), false) := by unfold kStep; rw [if_pos e]
      refine ⟨fun g1 => ⟨fun o1 => ⟨by omega, by omega, fin2 _ false (by rw [hks, if_pos ⟨g1, o1⟩]) ?_⟩, fun o1 => ⟨by omega, fin2 _ false (by rw [hks, if_neg (by simp [o1])]) ?_⟩⟩, fun g1 => ⟨by omega, fin2 _ false (by rw [hks, if_neg (by simp [g1])]) ?_⟩⟩
      · have := hlen (o ++ [32])
        have h9 : (o ++ ([32] : Str)).length = o.length + 1 := by simp
        omega
      · have := hlen o; omega
      · have := hlen o; omega
  · obtain ⟨w1, w2⟩ := dec_w h
    rw [chD_at h, List.flatMap_cons, ← List.append_assoc] at hv
    generalize (decodeL (s.drop k)).1 = c at *
    generalize (decodeL (s.drop k)).2 = n at *
    have hc := repC_len lang c
    refine CallL.q (c191 lang c) ?_
    push_cast
    exact ⟨by omega, (k + n, out ++ repC lang c), ⟨⟨w2, hv, by show (out ++ repC lang c).length ≤ _; rw [List.length_append]; omega⟩, by show s.length - (k + n) < _; omega⟩, rfl, rfl⟩
theorem cmp_val : ∀ (a b : Str), Lib.compareBytes a b = if Op.bytesLess a b = true then -1 else if a = b then 0 else 1
  | [], [] => by simp [Lib.compareBytes, Op.bytesLess]
  | [], _ :: _ => by simp [Lib.compareBytes, Op.bytesLess]
  | _ :: _, [] => by simp [Lib.compareBytes, Op.bytesLess]
  | a :: r, b :: t => by
    have ih := cmp_val r t
    unfold Lib.compareBytes Op.bytesLess
    by_cases h1 : a < b
    · simp [h1]
    · by_cases h2 : b < a
      · have h3 : ¬ a = b := fun e => by subst e; exact h1 h2
        simp [h1, h2, h3]
      · have h3 : a = b := UInt8.le_antisymm (UInt8.not_lt.1 h2) (UInt8.not_lt.1 h1)
        subst h3
        simp [h1, ih]
def cmpKR (lang a b : Str) : Int := if Lib.compareBytes (keyR lang a) (keyR lang b) ≠ 0 then Lib.compareBytes (keyR lang a) (keyR lang b) else Lib.compareBytes a b
theorem cmpKR_eq {lang a b : Str} (ha : validF a = true) (hb : validF b = true) : cmpKR lang a b = cmpK lang a b := by
  unfold cmpKR cmpK
  rw [key_same ha, key_same hb]
theorem c70 (lang a b : Str) (ha : a.length ≤ 100000) (hb : b.length ≤ 100000) : AFn Tryz.prog Γ 70 [.c (.d (.str lang)), .c (.d (.str a)), .c (.d (.str b))] [.d (.int .i64 (cmpKR lang a b))] := by
  refine AFn.vc [] Tryz.func70 rfl Tryz.mixed (by kernel_rfl) Tryz.ntmps70 Tryz.results70 (by simp) ?_
  push_cast
  refine CallL.q (c133 lang a ha) ?_
  push_cast
  refine CallL.q (c133 lang b hb) ?_
  push_cast
  unfold cmpKR
  have h0 := cmpB_zero (keyR lang a) (keyR lang b)
  rw [cmp_val a b]
  refine ⟨fun e => ?_, fun e => ?_⟩
  · rw [if_neg (by simp [h0.2 e])]
    refine ⟨fun h => by rw [if_pos h], fun h => ?_⟩
    rw [if_neg (by simp [h])]
    split <;> simp_all
  · rw [if_pos (fun q => e (h0.1 q)), cmp_val]
    refine ⟨fun h => by rw [if_pos h], fun h => ?_⟩
    rw [if_neg (by simp [h]), if_neg e]
    simp_all
def cmpPR (lang : Str) (x y : Pr) : Int := if cmpKR lang x.1 y.1 ≠ 0 then cmpKR lang x.1 y.1 else cmpKR lang x.2 y.2
theorem c23 (lang : Str) (a b : Br) (h1 : a.hd.length ≤ 100000) (h2 : b.hd.length ≤ 100000) (h3 : a.ref.length ≤ 100000) (h4 : b.ref.length ≤ 100000) : AFn Tryz.prog Γ 23 [.c (.d (.str lang)), .agg (a.ds.map C.d), .agg (b.ds.map C.d)] [.d (.int .i64 (cmpPR lang a.pr b.pr))] := by
  refine AFn.vc [] Tryz.func23 rfl Tryz.mixed (by kernel_rfl) Tryz.ntmps23 Tryz.results23 (by simp) ?_
  push_cast
  refine CallL.q (c70 lang a.hd b.hd h1 h2) ?_
  push_cast
  unfold cmpPR Br.pr
  refine ⟨fun e => ?_, fun e => ?_⟩
  · refine CallL.q (c70 lang a.ref b.ref h3 h4) ?_
    push_cast
    simp [e]
  · simp [e]
end Go.Proofs
