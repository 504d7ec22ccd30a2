/- Part of a proof about this program; no condition of its own. -/
import Derived.Test.YticdcapnomageaaDoorIWa
set_option linter.all false
/- Walks of the chapters on loans between libraries, second part: the reference's characters. -/
namespace Go.Proofs
open Go Go.Ax Go.Tx Go.Il
set_option maxRecDepth 100000
variable {Γ : List (Nat × List D)}
theorem c118 (c : Nat) : AFn Tryd.prog Γ 118 [.c (.d (.int .i64 c))] [.d (.bool (blankR c))] := by
  refine AFn.vc [] Tryd.func118 rfl Tryd.mixed (by kernel_rfl) Tryd.ntmps118 Tryd.results118 (by simp) ?_
  push_cast
  unfold blankR
  refine ⟨fun h => ?_, fun h => ?_⟩
  · rw [decide_eq_false (by omega : ¬ c = 32), Bool.false_or]
    exact decide_eq_decide.2 (by omega)
  · rw [decide_eq_true (by omega : c = 32)]; rfl
theorem c116_p0 (s : List UInt8) (i b c : Nat) (hi : i < s.length) (hs : s.length ≤ 1000000) (ha : s[i].toNat < 256) (hb : b < 256) (hc : c < 256) (eb : ∀ (z : Nat) (hz : z = i + 1) (h : z < s.length), s[z].toNat = b) (ec : ∀ (z : Nat) (hz : z = i + 2) (h : z < s.length), s[z].toNat = c) (p : 32 ≤ s[i].toNat ∧ s[i].toNat < 127) : AFn Tryd.prog Γ 116 [.c (.d (.str s)), .c (.d (.int .i64 i))] [.d (.int .i64 (dec3 s[i].toNat b c (s.length - i)).1), .d (.int .i64 (dec3 s[i].toNat b c (s.length - i)).2)] := by
  have hA1 : (32 ≤ (s[i].toNat : Int)) = True := eq_true (by omega)
  have hA2 : ((s[i].toNat : Int) < 127) = True := eq_true (by omega)
  have e : dec3 s[i].toNat b c (s.length - i) = (s[i].toNat, 1) := by unfold dec3; rw [if_pos (by omega)]
  rw [e]
  clear e
  refine AFn.vc [] Tryd.func116 rfl Tryd.mixed (by kernel_rfl) Tryd.ntmps116 Tryd.results116 (by simp) ?_
  push_cast [hA1, hA2]
  repeat' (first | apply And.intro | intro _ | refine Exists.intro (by omega) ?_)
  all_goals first | omega | rfl
theorem c116_p1 (s : List UInt8) (i b c : Nat) (hi : i < s.length) (hs : s.length ≤ 1000000) (ha : s[i].toNat < 256) (hb : b < 256) (hc : c < 256) (eb : ∀ (z : Nat) (hz : z = i + 1) (h : z < s.length), s[z].toNat = b) (ec : ∀ (z : Nat) (hz : z = i + 2) (h : z < s.length), s[z].toNat = c) (p : s[i].toNat < 32) : AFn Tryd.prog Γ 116 [.c (.d (.str s)), .c (.d (.int .i64 i))] [.d (.int .i64 (dec3 s[i].toNat b c (s.length - i)).1), .d (.int .i64 (dec3 s[i].toNat b c (s.length - i)).2)] := by
  have hA1 : (32 ≤ (s[i].toNat : Int)) = False := eq_false (by omega)
  have hB1 : (194 ≤ (s[i].toNat : Int)) = False := eq_false (by omega)
  have hC1 : (224 ≤ (s[i].toNat : Int)) = False := eq_false (by omega)
  have e : dec3 s[i].toNat b c (s.length - i) = (0, 0) := by unfold dec3; rw [if_neg (by omega), if_neg (by omega), if_neg (by omega)]
  rw [e]
  clear e
  refine AFn.vc [] Tryd.func116 rfl Tryd.mixed (by kernel_rfl) Tryd.ntmps116 Tryd.results116 (by simp) ?_
  push_cast [hA1, hB1, hC1]
  repeat' (first | apply And.intro | intro _ | refine Exists.intro (by omega) ?_)
  all_goals first | omega | rfl
theorem c116_p2 (s : List UInt8) (i b c : Nat) (hi : i < s.length) (hs : s.length ≤ 1000000) (ha : s[i].toNat < 256) (hb : b < 256) (hc : c < 256) (eb : ∀ (z : Nat) (hz : z = i + 1) (h : z < s.length), s[z].toNat = b) (ec : ∀ (z : Nat) (hz : z = i + 2) (h : z < s.length), s[z].toNat = c) (p : 127 ≤ s[i].toNat ∧ s[i].toNat < 194) : AFn Tryd.prog Γ 116 [.c (.d (.str s)), .c (.d (.int .i64 i))] [.d (.int .i64 (dec3 s[i].toNat b c (s.length - i)).1), .d (.int .i64 (dec3 s[i].toNat b c (s.length - i)).2)] := by
  have hA1 : (32 ≤ (s[i].toNat : Int)) = True := eq_true (by omega)
  have hA2 : ((s[i].toNat : Int) < 127) = False := eq_false (by omega)
  have hB1 : (194 ≤ (s[i].toNat : Int)) = False := eq_false (by omega)
  have hC1 : (224 ≤ (s[i].toNat : Int)) = False := eq_false (by omega)
  have e : dec3 s[i].toNat b c (s.length - i) = (0, 0) := by unfold dec3; rw [if_neg (by omega), if_neg (by omega), if_neg (by omega)]
  rw [e]
  clear e
  refine AFn.vc [] Tryd.func116 rfl Tryd.mixed (by kernel_rfl) Tryd.ntmps116 Tryd.results116 (by simp) ?_
  push_cast [hA1, hA2, hB1, hC1]
  repeat' (first | apply And.intro | intro _ | refine Exists.intro (by omega) ?_)
  all_goals first | omega | rfl
theorem c116_p3 (s : List UInt8) (i b c : Nat) (hi : i < s.length) (hs : s.length ≤ 1000000) (ha : s[i].toNat < 256) (hb : b < 256) (hc : c < 256) (eb : ∀ (z : Nat) (hz : z = i + 1) (h : z < s.length), s[z].toNat = b) (ec : ∀ (z : Nat) (hz : z = i + 2) (h : z < s.length), s[z].toNat = c) (p : 194 ≤ s[i].toNat ∧ s[i].toNat < 224 ∧ ¬ i + 1 < s.length) : AFn Tryd.prog Γ 116 [.c (.d (.str s)), .c (.d (.int .i64 i))] [.d (.int .i64 (dec3 s[i].toNat b c (s.length - i)).1), .d (.int .i64 (dec3 s[i].toNat b c (s.length - i)).2)] := by
  have hA1 : (32 ≤ (s[i].toNat : Int)) = True := eq_true (by omega)
  have hA2 : ((s[i].toNat : Int) < 127) = False := eq_false (by omega)
  have hB1 : (194 ≤ (s[i].toNat : Int)) = True := eq_true (by omega)
  have hB2 : ((s[i].toNat : Int) < 224) = True := eq_true (by omega)
  have hB3 : ((i : Int) + 1 < (s.length : Int)) = False := eq_false (by omega)
  have hC1 : (224 ≤ (s[i].toNat : Int)) = False := eq_false (by omega)
  have e : dec3 s[i].toNat b c (s.length - i) = (0, 0) := by unfold dec3; rw [if_neg (by omega), if_neg (by omega), if_neg (by omega)]
  rw [e]
  clear e
  refine AFn.vc [] Tryd.func116 rfl Tryd.mixed (by kernel_rfl) Tryd.ntmps116 Tryd.results116 (by simp) ?_
  push_cast [hA1, hA2, hB1, hB2, hB3, hC1]
  repeat' (first | apply And.intro | intro _ | refine Exists.intro (by omega) ?_)
  all_goals first | omega | rfl
theorem c116_p4 (s : List UInt8) (i b c : Nat) (hi : i < s.length) (hs : s.length ≤ 1000000) (ha : s[i].toNat < 256) (hb : b < 256) (hc : c < 256) (eb : ∀ (z : Nat) (hz : z = i + 1) (h : z < s.length), s[z].toNat = b) (ec : ∀ (z : Nat) (hz : z = i + 2) (h : z < s.length), s[z].toNat = c) (p : 194 ≤ s[i].toNat ∧ s[i].toNat < 224 ∧ i + 1 < s.length ∧ b < 128) : AFn Tryd.prog Γ 116 [.c (.d (.str s)), .c (.d (.int .i64 i))] [.d (.int .i64 (dec3 s[i].toNat b c (s.length - i)).1), .d (.int .i64 (dec3 s[i].toNat b c (s.length - i)).2)] := by
  have hA1 : (32 ≤ (s[i].toNat : Int)) = True := eq_true (by omega)
  have hA2 : ((s[i].toNat : Int) < 127) = False := eq_false (by omega)
  have hB1 : (194 ≤ (s[i].toNat : Int)) = True := eq_true (by omega)
  have hB2 : ((s[i].toNat : Int) < 224) = True := eq_true (by omega)
  have hB3 : ((i : Int) + 1 < (s.length : Int)) = True := eq_true (by omega)
  have hB4 : ∀ h, (128 ≤ ((s[((i : Int) + 1).toNat]'h).toNat : Int)) = False := fun h => by have := eb _ (by omega) h; exact eq_false (by omega)
  have hC1 : (224 ≤ (s[i].toNat : Int)) = False := eq_false (by omega)
  have e : dec3 s[i].toNat b c (s.length - i) = (0, 0) := by unfold dec3; rw [if_neg (by omega), if_neg (by omega), if_neg (by omega)]
  rw [e]
  clear e
  refine AFn.vc [] Tryd.func116 rfl Tryd.mixed (by kernel_rfl) Tryd.ntmps116 Tryd.results116 (by simp) ?_
  push_cast [hA1, hA2, hB1, hB2, hB3, hB4, hC1]
  repeat' (first | apply And.intro | intro _ | refine Exists.intro (by omega) ?_)
  all_goals first | omega | rfl
theorem c116_p5 (s : List UInt8) (i b c : Nat) (hi : i < s.length) (hs : s.length ≤ 1000000) (ha : s[i].toNat < 256) (hb : b < 256) (hc : c < 256) (eb : ∀ (z : Nat) (hz : z = i + 1) (h : z < s.length), s[z].toNat = b) (ec : ∀ (z : Nat) (hz : z = i + 2) (h : z < s.length), s[z].toNat = c) (p : 194 ≤ s[i].toNat ∧ s[i].toNat < 224 ∧ i + 1 < s.length ∧ 192 ≤ b) : AFn Tryd.prog Γ 116 [.c (.d (.str s)), .c (.d (.int .i64 i))] [.d (.int .i64 (dec3 s[i].toNat b c (s.length - i)).1), .d (.int .i64 (dec3 s[i].toNat b c (s.length - i)).2)] := by
  have hA1 : (32 ≤ (s[i].toNat : Int)) = True := eq_true (by omega)
  have hA2 : ((s[i].toNat : Int) < 127) = False := eq_false (by omega)
  have hB1 : (194 ≤ (s[i].toNat : Int)) = True := eq_true (by omega)
  have hB2 : ((s[i].toNat : Int) < 224) = True := eq_true (by omega)
  have hB3 : ((i : Int) + 1 < (s.length : Int)) = True := eq_true (by omega)
  have hB4 : ∀ h, (128 ≤ ((s[((i : Int) + 1).toNat]'h).toNat : Int)) = True := fun h => by have := eb _ (by omega) h; exact eq_true (by omega)
  have hB5 : ∀ h, (((s[((i : Int) + 1).toNat]'h).toNat : Int) < 192) = False := fun h => by have := eb _ (by omega) h; exact eq_false (by omega)
  have hC1 : (224 ≤ (s[i].toNat : Int)) = False := eq_false (by omega)
  have e : dec3 s[i].toNat b c (s.length - i) = (0, 0) := by unfold dec3; rw [if_neg (by omega), if_neg (by omega), if_neg (by omega)]
  rw [e]
  clear e
  refine AFn.vc [] Tryd.func116 rfl Tryd.mixed (by kernel_rfl) Tryd.ntmps116 Tryd.results116 (by simp) ?_
  push_cast [hA1, hA2, hB1, hB2, hB3, hB4, hB5, hC1]
  repeat' (first | apply And.intro | intro _ | refine Exists.intro (by omega) ?_)
  all_goals first | omega | rfl
theorem c116_p6 (s : List UInt8) (i b c : Nat) (hi : i < s.length) (hs : s.length ≤ 1000000) (ha : s[i].toNat < 256) (hb : b < 256) (hc : c < 256) (eb : ∀ (z : Nat) (hz : z = i + 1) (h : z < s.length), s[z].toNat = b) (ec : ∀ (z : Nat) (hz : z = i + 2) (h : z < s.length), s[z].toNat = c) (p : 194 ≤ s[i].toNat ∧ s[i].toNat < 224 ∧ i + 1 < s.length ∧ 128 ≤ b ∧ b < 192) : AFn Tryd.prog Γ 116 [.c (.d (.str s)), .c (.d (.int .i64 i))] [.d (.int .i64 (dec3 s[i].toNat b c (s.length - i)).1), .d (.int .i64 (dec3 s[i].toNat b c (s.length - i)).2)] := by
  have hA1 : (32 ≤ (s[i].toNat : Int)) = True := eq_true (by omega)
  have hA2 : ((s[i].toNat : Int) < 127) = False := eq_false (by omega)
  have hB1 : (194 ≤ (s[i].toNat : Int)) = True := eq_true (by omega)
  have hB2 : ((s[i].toNat : Int) < 224) = True := eq_true (by omega)
  have hB3 : ((i : Int) + 1 < (s.length : Int)) = True := eq_true (by omega)
  have hB4 : ∀ h, (128 ≤ ((s[((i : Int) + 1).toNat]'h).toNat : Int)) = True := fun h => by have := eb _ (by omega) h; exact eq_true (by omega)
  have hB5 : ∀ h, (((s[((i : Int) + 1).toNat]'h).toNat : Int) < 192) = True := fun h => by have := eb _ (by omega) h; exact eq_true (by omega)
  have e : dec3 s[i].toNat b c (s.length - i) = if 160 ≤ (s[i].toNat - 192) * 64 + (b - 128) then ((s[i].toNat - 192) * 64 + (b - 128), 2) else (0, 0) := by unfold dec3; rw [if_neg (by omega), if_pos (by omega)]
  rw [e]
  clear e
  refine AFn.vc [] Tryd.func116 rfl Tryd.mixed (by kernel_rfl) Tryd.ntmps116 Tryd.results116 (by simp) ?_
  push_cast [hA1, hA2, hB1, hB2, hB3, hB4, hB5]
  have fb : ∀ h : ((i : Int) + 1).toNat < s.length, (s[((i : Int) + 1).toNat]'h).toNat = b := fun h => eb _ (by omega) h
  have fc : ∀ h : ((i : Int) + 2).toNat < s.length, (s[((i : Int) + 2).toNat]'h).toNat = c := fun h => ec _ (by omega) h
  simp only [fb, fc]
  clear fb fc eb ec hA1 hA2 hB1 hB2 hB4 hB5
  repeat' (first | apply And.intro | intro _ | refine Exists.intro (by omega) ?_)
  all_goals first
    | omega
    | (rw [if_pos (by omega)]; simp only; omega)
    | (rw [if_neg (by omega)]; rfl)
theorem c116_p7 (s : List UInt8) (i b c : Nat) (hi : i < s.length) (hs : s.length ≤ 1000000) (ha : s[i].toNat < 256) (hb : b < 256) (hc : c < 256) (eb : ∀ (z : Nat) (hz : z = i + 1) (h : z < s.length), s[z].toNat = b) (ec : ∀ (z : Nat) (hz : z = i + 2) (h : z < s.length), s[z].toNat = c) (p : 240 ≤ s[i].toNat) : AFn Tryd.prog Γ 116 [.c (.d (.str s)), .c (.d (.int .i64 i))] [.d (.int .i64 (dec3 s[i].toNat b c (s.length - i)).1), .d (.int .i64 (dec3 s[i].toNat b c (s.length - i)).2)] := by
  have hA1 : (32 ≤ (s[i].toNat : Int)) = True := eq_true (by omega)
  have hA2 : ((s[i].toNat : Int) < 127) = False := eq_false (by omega)
  have hB1 : (194 ≤ (s[i].toNat : Int)) = True := eq_true (by omega)
  have hB2 : ((s[i].toNat : Int) < 224) = False := eq_false (by omega)
  have hC1 : (224 ≤ (s[i].toNat : Int)) = True := eq_true (by omega)
  have hC2 : ((s[i].toNat : Int) < 240) = False := eq_false (by omega)
  have e : dec3 s[i].toNat b c (s.length - i) = (0, 0) := by unfold dec3; rw [if_neg (by omega), if_neg (by omega), if_neg (by omega)]
  rw [e]
  clear e
  refine AFn.vc [] Tryd.func116 rfl Tryd.mixed (by kernel_rfl) Tryd.ntmps116 Tryd.results116 (by simp) ?_
  push_cast [hA1, hA2, hB1, hB2, hC1, hC2]
  repeat' (first | apply And.intro | intro _ | refine Exists.intro (by omega) ?_)
  all_goals first | omega | rfl
theorem c116_p8 (s : List UInt8) (i b c : Nat) (hi : i < s.length) (hs : s.length ≤ 1000000) (ha : s[i].toNat < 256) (hb : b < 256) (hc : c < 256) (eb : ∀ (z : Nat) (hz : z = i + 1) (h : z < s.length), s[z].toNat = b) (ec : ∀ (z : Nat) (hz : z = i + 2) (h : z < s.length), s[z].toNat = c) (p : 224 ≤ s[i].toNat ∧ s[i].toNat < 240 ∧ ¬ i + 2 < s.length) : AFn Tryd.prog Γ 116 [.c (.d (.str s)), .c (.d (.int .i64 i))] [.d (.int .i64 (dec3 s[i].toNat b c (s.length - i)).1), .d (.int .i64 (dec3 s[i].toNat b c (s.length - i)).2)] := by
  have hA1 : (32 ≤ (s[i].toNat : Int)) = True := eq_true (by omega)
  have hA2 : ((s[i].toNat : Int) < 127) = False := eq_false (by omega)
  have hB1 : (194 ≤ (s[i].toNat : Int)) = True := eq_true (by omega)
  have hB2 : ((s[i].toNat : Int) < 224) = False := eq_false (by omega)
  have hC1 : (224 ≤ (s[i].toNat : Int)) = True := eq_true (by omega)
  have hC2 : ((s[i].toNat : Int) < 240) = True := eq_true (by omega)
  have hC3 : ((i : Int) + 2 < (s.length : Int)) = False := eq_false (by omega)
  have e : dec3 s[i].toNat b c (s.length - i) = (0, 0) := by unfold dec3; rw [if_neg (by omega), if_neg (by omega), if_neg (by omega)]
  rw [e]
  clear e
  refine AFn.vc [] Tryd.func116 rfl Tryd.mixed (by kernel_rfl) Tryd.ntmps116 Tryd.results116 (by simp) ?_
  push_cast [hA1, hA2, hB1, hB2, hC1, hC2, hC3]
  repeat' (first | apply And.intro | intro _ | refine Exists.intro (by omega) ?_)
  all_goals first | omega | rfl
theorem c116_p9 (s : List UInt8) (i b c : Nat) (hi : i < s.length) (hs : s.length ≤ 1000000) (ha : s[i].toNat < 256) (hb : b < 256) (hc : c < 256) (eb : ∀ (z : Nat) (hz : z = i + 1) (h : z < s.length), s[z].toNat = b) (ec : ∀ (z : Nat) (hz : z = i + 2) (h : z < s.length), s[z].toNat = c) (p : 224 ≤ s[i].toNat ∧ s[i].toNat < 240 ∧ i + 2 < s.length ∧ b < 128) : AFn Tryd.prog Γ 116 [.c (.d (.str s)), .c (.d (.int .i64 i))] [.d (.int .i64 (dec3 s[i].toNat b c (s.length - i)).1), .d (.int .i64 (dec3 s[i].toNat b c (s.length - i)).2)] := by
  have hA1 : (32 ≤ (s[i].toNat : Int)) = True := eq_true (by omega)
  have hA2 : ((s[i].toNat : Int) < 127) = False := eq_false (by omega)
  have hB1 : (194 ≤ (s[i].toNat : Int)) = True := eq_true (by omega)
  have hB2 : ((s[i].toNat : Int) < 224) = False := eq_false (by omega)
  have hC1 : (224 ≤ (s[i].toNat : Int)) = True := eq_true (by omega)
  have hC2 : ((s[i].toNat : Int) < 240) = True := eq_true (by omega)
  have hC3 : ((i : Int) + 2 < (s.length : Int)) = True := eq_true (by omega)
  have hB4 : ∀ h, (128 ≤ ((s[((i : Int) + 1).toNat]'h).toNat : Int)) = False := fun h => by have := eb _ (by omega) h; exact eq_false (by omega)
  have e : dec3 s[i].toNat b c (s.length - i) = (0, 0) := by unfold dec3; rw [if_neg (by omega), if_neg (by omega), if_neg (by omega)]
  rw [e]
  clear e
  refine AFn.vc [] Tryd.func116 rfl Tryd.mixed (by kernel_rfl) Tryd.ntmps116 Tryd.results116 (by simp) ?_
  push_cast [hA1, hA2, hB1, hB2, hC1, hC2, hC3, hB4]
  repeat' (first | apply And.intro | intro _ | refine Exists.intro (by omega) ?_)
  all_goals first | omega | rfl
theorem c116_p10 (s : List UInt8) (i b c : Nat) (hi : i < s.length) (hs : s.length ≤ 1000000) (ha : s[i].toNat < 256) (hb : b < 256) (hc : c < 256) (eb : ∀ (z : Nat) (hz : z = i + 1) (h : z < s.length), s[z].toNat = b) (ec : ∀ (z : Nat) (hz : z = i + 2) (h : z < s.length), s[z].toNat = c) (p : 224 ≤ s[i].toNat ∧ s[i].toNat < 240 ∧ i + 2 < s.length ∧ 192 ≤ b) : AFn Tryd.prog Γ 116 [.c (.d (.str s)), .c (.d (.int .i64 i))] [.d (.int .i64 (dec3 s[i].toNat b c (s.length - i)).1), .d (.int .i64 (dec3 s[i].toNat b c (s.length - i)).2)] := by
  have hA1 : (32 ≤ (s[i].toNat : Int)) = True := eq_true (by omega)
  have hA2 : ((s[i].toNat : Int) < 127) = False := eq_false (by omega)
  have hB1 : (194 ≤ (s[i].toNat : Int)) = True := eq_true (by omega)
  have hB2 : ((s[i].toNat : Int) < 224) = False := eq_false (by omega)
  have hC1 : (224 ≤ (s[i].toNat : Int)) = True := eq_true (by omega)
  have hC2 : ((s[i].toNat : Int) < 240) = True := eq_true (by omega)
  have hC3 : ((i : Int) + 2 < (s.length : Int)) = True := eq_true (by omega)
  have hB4 : ∀ h, (128 ≤ ((s[((i : Int) + 1).toNat]'h).toNat : Int)) = True := fun h => by have := eb _ (by omega) h; exact eq_true (by omega)
  have hB5 : ∀ h, (((s[((i : Int) + 1).toNat]'h).toNat : Int) < 192) = False := fun h => by have := eb _ (by omega) h; exact eq_false (by omega)
  have e : dec3 s[i].toNat b c (s.length - i) = (0, 0) := by unfold dec3; rw [if_neg (by omega), if_neg (by omega), if_neg (by omega)]
  rw [e]
  clear e
  refine AFn.vc [] Tryd.func116 rfl Tryd.mixed (by kernel_rfl) Tryd.ntmps116 Tryd.results116 (by simp) ?_
  push_cast [hA1, hA2, hB1, hB2, hC1, hC2, hC3, hB4, hB5]
  repeat' (first | apply And.intro | intro _ | refine Exists.intro (by omega) ?_)
  all_goals first | omega | rfl
theorem c116_p11 (s : List UInt8) (i b c : Nat) (hi : i < s.length) (hs : s.length ≤ 1000000) (ha : s[i].toNat < 256) (hb : b < 256) (hc : c < 256) (eb : ∀ (z : Nat) (hz : z = i + 1) (h : z < s.length), s[z].toNat = b) (ec : ∀ (z : Nat) (hz : z = i + 2) (h : z < s.length), s[z].toNat = c) (p : 224 ≤ s[i].toNat ∧ s[i].toNat < 240 ∧ i + 2 < s.length ∧ 128 ≤ b ∧ b < 192 ∧ c < 128) : AFn Tryd.prog Γ 116 [.c (.d (.str s)), .c (.d (.int .i64 i))] [.d (.int .i64 (dec3 s[i].toNat b c (s.length - i)).1), .d (.int .i64 (dec3 s[i].toNat b c (s.length - i)).2)] := by
  have hA1 : (32 ≤ (s[i].toNat : Int)) = True := eq_true (by omega)
  have hA2 : ((s[i].toNat : Int) < 127) = False := eq_false (by omega)
  have hB1 : (194 ≤ (s[i].toNat : Int)) = True := eq_true (by omega)
  have hB2 : ((s[i].toNat : Int) < 224) = False := eq_false (by omega)
  have hC1 : (224 ≤ (s[i].toNat : Int)) = True := eq_true (by omega)
  have hC2 : ((s[i].toNat : Int) < 240) = True := eq_true (by omega)
  have hC3 : ((i : Int) + 2 < (s.length : Int)) = True := eq_true (by omega)
  have hB4 : ∀ h, (128 ≤ ((s[((i : Int) + 1).toNat]'h).toNat : Int)) = True := fun h => by have := eb _ (by omega) h; exact eq_true (by omega)
  have hB5 : ∀ h, (((s[((i : Int) + 1).toNat]'h).toNat : Int) < 192) = True := fun h => by have := eb _ (by omega) h; exact eq_true (by omega)
  have hC6 : ∀ h, (128 ≤ ((s[((i : Int) + 2).toNat]'h).toNat : Int)) = False := fun h => by have := ec _ (by omega) h; exact eq_false (by omega)
  have e : dec3 s[i].toNat b c (s.length - i) = (0, 0) := by unfold dec3; rw [if_neg (by omega), if_neg (by omega), if_neg (by omega)]
  rw [e]
  clear e
  refine AFn.vc [] Tryd.func116 rfl Tryd.mixed (by kernel_rfl) Tryd.ntmps116 Tryd.results116 (by simp) ?_
  push_cast [hA1, hA2, hB1, hB2, hC1, hC2, hC3, hB4, hB5, hC6]
  repeat' (first | apply And.intro | intro _ | refine Exists.intro (by omega) ?_)
  all_goals first | omega | rfl
theorem c116_p12 (s : List UInt8) (i b c : Nat) (hi : i < s.length) (hs : s.length ≤ 1000000) (ha : s[i].toNat < 256) (hb : b < 256) (hc : c < 256) (eb : ∀ (z : Nat) (hz : z = i + 1) (h : z < s.length), s[z].toNat = b) (ec : ∀ (z : Nat) (hz : z = i + 2) (h : z < s.length), s[z].toNat = c) (p : 224 ≤ s[i].toNat ∧ s[i].toNat < 240 ∧ i + 2 < s.length ∧ 128 ≤ b ∧ b < 192 ∧ 192 ≤ c) : AFn Tryd.prog Γ 116 [.c (.d (.str s)), .c (.d (.int .i64 i))] [.d (.int .i64 (dec3 s[i].toNat b c (s.length - i)).1), .d (.int .i64 (dec3 s[i].toNat b c (s.length - i)).2)] := by
  have hA1 : (32 ≤ (s[i].toNat : Int)) = True := eq_true (by omega)
  have hA2 : ((s[i].toNat : Int) < 127) = False := eq_false (by omega)
  have hB1 : (194 ≤ (s[i].toNat : Int)) = True := eq_true (by omega)
  have hB2 : ((s[i].toNat : Int) < 224) = False := eq_false (by omega)
  have hC1 : (224 ≤ (s[i].toNat : Int)) = True := eq_true (by omega)
  have hC2 : ((s[i].toNat : Int) < 240) = True := eq_true (by omega)
  have hC3 : ((i : Int) + 2 < (s.length : Int)) = True := eq_true (by omega)
  have hB4 : ∀ h, (128 ≤ ((s[((i : Int) + 1).toNat]'h).toNat : Int)) = True := fun h => by have := eb _ (by omega) h; exact eq_true (by omega)
  have hB5 : ∀ h, (((s[((i : Int) + 1).toNat]'h).toNat : Int) < 192) = True := fun h => by have := eb _ (by omega) h; exact eq_true (by omega)
  have hC6 : ∀ h, (128 ≤ ((s[((i : Int) + 2).toNat]'h).toNat : Int)) = True := fun h => by have := ec _ (by omega) h; exact eq_true (by omega)
  have hC7 : ∀ h, (((s[((i : Int) + 2).toNat]'h).toNat : Int) < 192) = False := fun h => by have := ec _ (by omega) h; exact eq_false (by omega)
  have e : dec3 s[i].toNat b c (s.length - i) = (0, 0) := by unfold dec3; rw [if_neg (by omega), if_neg (by omega), if_neg (by omega)]
  rw [e]
  clear e
  refine AFn.vc [] Tryd.func116 rfl Tryd.mixed (by kernel_rfl) Tryd.ntmps116 Tryd.results116 (by simp) ?_
  push_cast [hA1, hA2, hB1, hB2, hC1, hC2, hC3, hB4, hB5, hC6, hC7]
  repeat' (first | apply And.intro | intro _ | refine Exists.intro (by omega) ?_)
  all_goals first | omega | rfl
theorem c116_p13 (s : List UInt8) (i b c : Nat) (hi : i < s.length) (hs : s.length ≤ 1000000) (ha : s[i].toNat < 256) (hb : b < 256) (hc : c < 256) (eb : ∀ (z : Nat) (hz : z = i + 1) (h : z < s.length), s[z].toNat = b) (ec : ∀ (z : Nat) (hz : z = i + 2) (h : z < s.length), s[z].toNat = c) (p : 224 ≤ s[i].toNat ∧ s[i].toNat < 240 ∧ i + 2 < s.length ∧ 128 ≤ b ∧ b < 192 ∧ 128 ≤ c ∧ c < 192) : AFn Tryd.prog Γ 116 [.c (.d (.str s)), .c (.d (.int .i64 i))] [.d (.int .i64 (dec3 s[i].toNat b c (s.length - i)).1), .d (.int .i64 (dec3 s[i].toNat b c (s.length - i)).2)] := by
  have hA1 : (32 ≤ (s[i].toNat : Int)) = True := eq_true (by omega)
  have hA2 : ((s[i].toNat : Int) < 127) = False := eq_false (by omega)
  have hB1 : (194 ≤ (s[i].toNat : Int)) = True := eq_true (by omega)
  have hB2 : ((s[i].toNat : Int) < 224) = False := eq_false (by omega)
  have hC1 : (224 ≤ (s[i].toNat : Int)) = True := eq_true (by omega)
  have hC2 : ((s[i].toNat : Int) < 240) = True := eq_true (by omega)
  have hC3 : ((i : Int) + 2 < (s.length : Int)) = True := eq_true (by omega)
  have hB4 : ∀ h, (128 ≤ ((s[((i : Int) + 1).toNat]'h).toNat : Int)) = True := fun h => by have := eb _ (by omega) h; exact eq_true (by omega)
  have hB5 : ∀ h, (((s[((i : Int) + 1).toNat]'h).toNat : Int) < 192) = True := fun h => by have := eb _ (by omega) h; exact eq_true (by omega)
  have hC6 : ∀ h, (128 ≤ ((s[((i : Int) + 2).toNat]'h).toNat : Int)) = True := fun h => by have := ec _ (by omega) h; exact eq_true (by omega)
  have hC7 : ∀ h, (((s[((i : Int) + 2).toNat]'h).toNat : Int) < 192) = True := fun h => by have := ec _ (by omega) h; exact eq_true (by omega)
  have e : dec3 s[i].toNat b c (s.length - i) = if 2048 ≤ (s[i].toNat - 224) * 4096 + (b - 128) * 64 + (c - 128) ∧ ((s[i].toNat - 224) * 4096 + (b - 128) * 64 + (c - 128) < 55296 ∨ 57343 < (s[i].toNat - 224) * 4096 + (b - 128) * 64 + (c - 128)) then ((s[i].toNat - 224) * 4096 + (b - 128) * 64 + (c - 128), 3) else (0, 0) := by unfold dec3; rw [if_neg (by omega), if_neg (by omega), if_pos (by omega)]
  rw [e]
  clear e
  refine AFn.vc [] Tryd.func116 rfl Tryd.mixed (by kernel_rfl) Tryd.ntmps116 Tryd.results116 (by simp) ?_
  push_cast [hA1, hA2, hB1, hB2, hC1, hC2, hC3, hB4, hB5, hC6, hC7]
  have fb : ∀ h : ((i : Int) + 1).toNat < s.length, (s[((i : Int) + 1).toNat]'h).toNat = b := fun h => eb _ (by omega) h
  have fc : ∀ h : ((i : Int) + 2).toNat < s.length, (s[((i : Int) + 2).toNat]'h).toNat = c := fun h => ec _ (by omega) h
  simp only [fb, fc]
  clear fb fc eb ec hA1 hA2 hB1 hB2 hB4 hB5
  repeat' (first | apply And.intro | intro _ | refine Exists.intro (by omega) ?_)
  all_goals first
    | omega
    | (rw [if_pos (by omega)]; simp only; omega)
    | (rw [if_neg (by omega)]; rfl)
theorem c116 (s : List UInt8) (i : Nat) (hi : i < s.length) (hs : s.length ≤ 1000000) : AFn Tryd.prog Γ 116 [.c (.d (.str s)), .c (.d (.int .i64 i))] [.d (.int .i64 (decF (s.drop i)).1), .d (.int .i64 (decF (s.drop i)).2)] := by
  have ea : ((s.drop i).getD 0 0) = s[i] := by simp [List.getD_eq_getElem?_getD, hi]
  have eb : ∀ (z : Nat) (hz : z = i + 1) (h : z < s.length), s[z].toNat = ((s.drop i).getD 1 0).toNat := fun z hz h => by subst hz; simp [List.getD_eq_getElem?_getD, h]
  have ec : ∀ (z : Nat) (hz : z = i + 2) (h : z < s.length), s[z].toNat = ((s.drop i).getD 2 0).toNat := fun z hz h => by subst hz; simp [List.getD_eq_getElem?_getD, h]
  have en : (s.drop i).length = s.length - i := by simp
  unfold decF
  rw [ea, en]
  have hb : ((s.drop i).getD 1 0).toNat < 256 := UInt8.toNat_lt _
  have hc : ((s.drop i).getD 2 0).toNat < 256 := UInt8.toNat_lt _
  have ha : s[i].toNat < 256 := UInt8.toNat_lt _
  generalize ((s.drop i).getD 1 0).toNat = b at *
  generalize ((s.drop i).getD 2 0).toNat = c at *
  by_cases a1 : s[i].toNat < 32
  · exact c116_p1 s i b c hi hs ha hb hc eb ec a1
  by_cases a2 : s[i].toNat < 127
  · exact c116_p0 s i b c hi hs ha hb hc eb ec ⟨by omega, a2⟩
  by_cases a3 : s[i].toNat < 194
  · exact c116_p2 s i b c hi hs ha hb hc eb ec ⟨by omega, a3⟩
  by_cases a4 : s[i].toNat < 224
  · by_cases n1 : i + 1 < s.length
    · by_cases b1 : b < 128
      · exact c116_p4 s i b c hi hs ha hb hc eb ec ⟨by omega, a4, n1, b1⟩
      by_cases b2 : b < 192
      · exact c116_p6 s i b c hi hs ha hb hc eb ec ⟨by omega, a4, n1, by omega, b2⟩
      · exact c116_p5 s i b c hi hs ha hb hc eb ec ⟨by omega, a4, n1, by omega⟩
    · exact c116_p3 s i b c hi hs ha hb hc eb ec ⟨by omega, a4, n1⟩
  by_cases a5 : s[i].toNat < 240
  · by_cases n2 : i + 2 < s.length
    · by_cases b1 : b < 128
      · exact c116_p9 s i b c hi hs ha hb hc eb ec ⟨by omega, a5, n2, b1⟩
      by_cases b2 : b < 192
      · by_cases c1 : c < 128
        · exact c116_p11 s i b c hi hs ha hb hc eb ec ⟨by omega, a5, n2, by omega, b2, c1⟩
        by_cases c2 : c < 192
        · exact c116_p13 s i b c hi hs ha hb hc eb ec ⟨by omega, a5, n2, by omega, b2, by omega, c2⟩
        · exact c116_p12 s i b c hi hs ha hb hc eb ec ⟨by omega, a5, n2, by omega, b2, by omega⟩
      · exact c116_p10 s i b c hi hs ha hb hc eb ec ⟨by omega, a5, n2, by omega⟩
    · exact c116_p8 s i b c hi hs ha hb hc eb ec ⟨by omega, a5, n2⟩
  · exact c116_p7 s i b c hi hs ha hb hc eb ec (by omega)
end Go.Proofs
