/- Part of a proof about this program; no condition of its own. -/
import Derived.Test.YticdcapnomageaaDoorIWb
set_option linter.all false
/- Walks of the chapters on loans between libraries, third part: notes and messages. -/
namespace Go.Proofs
open Go Go.Ax Go.Tx Go.Il
set_option maxRecDepth 100000
variable {Γ : List (Nat × List D)}
theorem c117 (s : List UInt8) (i : Nat) (hi : i < s.length) (hs : s.length ≤ 1000000) : AFn Tryd.prog Γ 117 [.c (.d (.str s)), .c (.d (.int .i64 i))] [.d (.int .i64 ((max (decF (s.drop i)).2 1 : Nat) : Int))] := by
  refine AFn.vc [] Tryd.func117 rfl Tryd.mixed (by kernel_rfl) Tryd.ntmps117 Tryd.results117 (by simp) ?_
  push_cast
  refine CallL.q (c116 s i hi hs) ?_
  push_cast
  unfold imax
  split <;> omega
theorem cleanG_fuel : ∀ (n m : Nat) (l : List UInt8) (st : List UInt8 × Bool), l.length ≤ n → l.length ≤ m → cleanG n l st = cleanG m l st
  | 0, 0, _, _, _, _ => rfl
  | 0, m + 1, l, st, h, _ => by obtain rfl : l = [] := List.length_eq_zero_iff.1 (by omega); simp [cleanG]
  | n + 1, 0, l, st, _, h => by obtain rfl : l = [] := List.length_eq_zero_iff.1 (by omega); simp [cleanG]
  | n + 1, m + 1, l, st, h1, h2 => by
    unfold cleanG
    split
    · rfl
    · next hne =>
      have : 1 ≤ l.length := List.length_pos_iff.2 hne
      exact cleanG_fuel n m _ _ (by rw [List.length_drop]; omega) (by rw [List.length_drop]; omega)
theorem clean_at {s : List UInt8} {k : Nat} (hk : k < s.length) (st : List UInt8 × Bool) : cleanG (s.length - k) (s.drop k) st =
    cleanG (s.length - (k + max (decF (s.drop k)).2 1)) (s.drop (k + max (decF (s.drop k)).2 1)) (cleanStep st (decF (s.drop k)).1 ((s.drop k).take (max (decF (s.drop k)).2 1))) := by
  obtain ⟨m, hm⟩ : ∃ m, s.length - k = m + 1 := ⟨s.length - k - 1, by omega⟩
  have hne : s.drop k ≠ [] := by intro e; have := congrArg List.length e; rw [List.length_drop] at this; simp at this; omega
  rw [hm]
  show (if s.drop k = [] then st.1 else cleanG m ((s.drop k).drop (max (decF (s.drop k)).2 1)) _) = _
  rw [if_neg hne, List.drop_drop]
  exact cleanG_fuel _ _ _ _ (by rw [List.length_drop]; omega) (by rw [List.length_drop]; omega)
theorem dec_at {s : List UInt8} {k : Nat} (hk : k < s.length) : k + (decF (s.drop k)).2 ≤ s.length := by
  have hne : s.drop k ≠ [] := by intro e; have := congrArg List.length e; rw [List.length_drop] at this; simp at this; omega
  have := decF_le _ hne
  rw [List.length_drop] at this; omega
theorem valid_at {s : List UInt8} {k : Nat} (hk : k < s.length) : validF (s.drop k) = (decide (0 < (decF (s.drop k)).2) && validF (s.drop (k + (decF (s.drop k)).2))) := by
  rw [validF_step (by intro e; have := congrArg List.length e; rw [List.length_drop] at this; simp at this; omega), List.drop_drop]
theorem c109 (s : List UInt8) (hs : s.length ≤ 1000000) : AFn Tryd.prog Γ 109 [.c (.d (.str s))] [.d (.bool (validF s))] := by
  refine AFn.vc [] Tryd.func109 rfl Tryd.mixed (by kernel_rfl) Tryd.ntmps109 Tryd.results109 (by simp) ?_
  push_cast
  refine LoopV.of0 Tryd.mixed [0] (fun k : Nat => [(3, .c (.d (.int .i64 k)))]) (fun k => k ≤ s.length ∧ validF (s.drop k) = validF s) (fun k => s.length - k) 0 ⟨Nat.zero_le _, by simp⟩ ?_ (by push_cast)
  rintro k ⟨hk, hv⟩
  push_cast
  refine ⟨fun h => ?_, fun h => ?_⟩
  · have hk' : k < s.length := by omega
    refine CallL.q (c116 s k hk' hs) ?_
    push_cast
    have hv2 := valid_at hk'
    have hle := dec_at hk'
    rw [hv] at hv2
    refine ⟨fun e => ?_, fun e => ⟨⟨by omega, by omega⟩, k + (decF (s.drop k)).2, ⟨⟨hle, ?_⟩, by omega⟩, by omega⟩⟩
    · rw [hv2, decide_eq_false (by omega)]; rfl
    · rw [hv2, decide_eq_true (by omega), Bool.true_and]
  · rw [← hv, List.drop_eq_nil_of_le (by omega)]; rfl
theorem c110 (s : List UInt8) (hs : s.length ≤ 100000) : AFn Tryd.prog Γ 110 [.c (.d (.str s))] [.d (.str (cleanF s))] := by
  refine AFn.vc [] Tryd.func110 rfl Tryd.mixed (by kernel_rfl) Tryd.ntmps110 Tryd.results110 (by simp) ?_
  push_cast
  refine LoopV.of0 Tryd.mixed [0] (fun q : Nat × (List UInt8 × Bool) => [(3, .c (.d (.str q.2.1))), (4, .c (.d (.bool q.2.2))), (5, .c (.d (.int .i64 q.1)))]) (fun q => q.1 ≤ s.length ∧ cleanG (s.length - q.1) (s.drop q.1) q.2 = cleanF s ∧ q.2.1.length ≤ 2 * q.1) (fun q => s.length - q.1) (0, [], false) ⟨Nat.zero_le _, by simp [cleanF], by simp⟩ ?_ (by push_cast)
  rintro ⟨k, out, gap⟩ ⟨hk, hv, hl⟩
  have hk : k ≤ s.length := hk
  have hl : out.length ≤ 2 * k := hl
  have hv : cleanG (s.length - k) (s.drop k) (out, gap) = cleanF s := hv
  push_cast
  refine ⟨fun h => ?_, fun h => ?_⟩
  · have hk' : k < s.length := by omega
    refine CallL.q (c116 s k hk' (by omega)) ?_
    push_cast
    refine CallL.q (c117 s k hk' (by omega)) ?_
    push_cast
    refine CallL.q (c118 (decF (s.drop k)).1) ?_
    push_cast
    have hst := clean_at hk' (out, gap)
    have hle := dec_at hk'
    rw [hv] at hst
    have hn1 : 1 ≤ max (decF (s.drop k)).2 1 := by omega
    have hn2 : k + max (decF (s.drop k)).2 1 ≤ s.length := by omega
    generalize hn : max (decF (s.drop k)).2 1 = n at *
    generalize hcc : (decF (s.drop k)).1 = c at *
    have hzn : ((k : Int) + (n : Int)).toNat - k = n := by omega
    have fin : ∀ (o : List UInt8) (g : Bool), cleanStep (out, gap) c ((s.drop k).take n) = (o, g) → o.length ≤ 2 * (k + n) → ∃ s' : Nat × (List UInt8 × Bool), ((s'.1 ≤ s.length ∧ cleanG (s.length - s'.1) (s.drop s'.1) s'.2 = cleanF s ∧ s'.2.1.length ≤ 2 * s'.1) ∧ s.length - s'.1 < s.length - k) ∧ s'.2.1 = o ∧ s'.2.2 = g ∧ (s'.1 : Int) = (k : Int) + n := fun o g e hlo =>
      ⟨(k + n, o, g), ⟨⟨hn2, by rw [e] at hst; exact hst.symm, hlo⟩, by show s.length - (k + n) < _; omega⟩, rfl, rfl, by show ((k + n : Nat) : Int) = _; omega⟩
    have ht : ((s.drop k).take n).length ≤ n := by rw [List.length_take]; omega
    rw [hzn]
    refine ⟨fun b => ⟨⟨by omega, by omega⟩, fin out true (by unfold cleanStep; rw [if_pos b]) (by omega)⟩, fun b => ?_⟩
    have hcs : cleanStep (out, gap) c ((s.drop k).take n) = ((if gap = true ∧ out ≠ [] then out ++ [32] else out) ++ (s.drop k).take n, false) := by unfold cleanStep; rw [if_neg (by simp [b])]
    have hlen : ∀ o : List UInt8, (o ++ (s.drop k).take n).length ≤ o.length + n := fun o => by rw [List.length_append]; omega
    have c1 : (-9223372036854775808 ≤ (k : Int) + n ∧ (k : Int) + n ≤ 9223372036854775807) := ⟨by omega, by omega⟩
    have c2 : k ≤ ((k : Int) + n).toNat ∧ ((k : Int) + n).toNat ≤ s.length := ⟨by omega, by omega⟩
    refine ⟨fun g => ⟨fun o => ⟨by omega, c1, by omega, c2, by omega, c1, fin _ false (by rw [hcs, if_pos ⟨g, o⟩]) ?_⟩, fun o => ⟨c1, by omega, c2, by omega, c1, fin _ false (by rw [hcs, if_neg (by simp [o])]) ?_⟩⟩, fun g => ⟨c1, by omega, c2, by omega, c1, fin _ false (by rw [hcs, if_neg (by simp [g])]) ?_⟩⟩
    · have := hlen (out ++ [32])
      have h9 : (out ++ [32]).length = out.length + 1 := by simp
      omega
    · have := hlen out; omega
    · have := hlen out; omega
  · rw [← hv, List.drop_eq_nil_of_le (by omega)]
    cases s.length - k <;> rfl
theorem c92 (n low high : Int) : AFn Tryd.prog Γ 92 [.c (.d (.int .i64 n)), .c (.d (.int .i64 low)), .c (.d (.int .i64 high))] [.d (.bool (inB n low high))] := by
  refine AFn.vc [] Tryd.func92 rfl Tryd.mixed (by kernel_rfl) Tryd.ntmps92 Tryd.results92 (by simp) ?_
  push_cast
  refine ⟨fun h => by simp [inB, h], fun h => by simp [inB]; omega⟩
theorem c99 (n low high : Int) : AFn Tryd.prog Γ 99 [.c (.d (.int .i64 n)), .c (.d (.int .i64 low)), .c (.d (.int .i64 high))] [.d (.bool (inB n low high))] := by
  refine AFn.vc [] Tryd.func99 rfl Tryd.mixed (by kernel_rfl) Tryd.ntmps99 Tryd.results99 (by simp) ?_
  push_cast
  refine ⟨fun h => by simp [inB, h], fun h => by simp [inB]; omega⟩
theorem c67 (n low high : Int) : AFn Tryd.prog Γ 67 [.c (.d (.int .i64 n)), .c (.d (.int .i64 low)), .c (.d (.int .i64 high))] [.d (.bool (inB n low high))] := by
  refine AFn.vc [] Tryd.func67 rfl Tryd.mixed (by kernel_rfl) Tryd.ntmps67 Tryd.results67 (by simp) ?_
  push_cast
  refine ⟨fun h => by simp [inB, h], fun h => by simp [inB]; omega⟩
theorem c100 (s : List UInt8) (hs : s.length ≤ 100000) : AFn Tryd.prog Γ0 100 [.c (.d (.str s))] [.d (.bool (noteF s))] := by
  refine AFn.vc [] Tryd.func100 rfl Tryd.mixed (by kernel_rfl) Tryd.ntmps100 Tryd.results100 (by simp) ?_
  push_cast
  refine CallL.q (c113 s (by omega)) ?_
  push_cast
  rw [← note_same]
  refine ⟨fun h => ?_, fun h => by rw [h]; rfl⟩
  refine CallL.q (c114 s (by omega) h) ?_
  push_cast
  rw [h, Bool.true_and]
theorem c93 (s : List UInt8) (hs : s.length ≤ 100000) : AFn Tryd.prog Γ 93 [.c (.d (.str s))] [.d (.bool (noteF s))] := by
  refine AFn.vc [] Tryd.func93 rfl Tryd.mixed (by kernel_rfl) Tryd.ntmps93 Tryd.results93 (by simp) ?_
  push_cast
  refine CallL.q (c109 s (by omega)) ?_
  push_cast
  refine ⟨fun h => ?_, fun h => by unfold noteF; rw [h]; rfl⟩
  refine CallL.q (c110 s hs) ?_
  push_cast
  unfold noteF
  rw [h, Bool.true_and]
end Go.Proofs
