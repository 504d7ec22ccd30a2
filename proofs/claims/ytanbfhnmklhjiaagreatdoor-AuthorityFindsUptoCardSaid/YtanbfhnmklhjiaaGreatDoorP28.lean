/- Part of a proof about this program; no condition of its own. -/
import Derived.Test.YtanbfhnmklhjiaaGreatDoorP27
import Derived.Test.YtanbfhnmklhjiaaGreatDoorP25
set_option linter.all false
/- Walks: characters, texts, lists (reference). -/
namespace Go.Proofs
open Go Go.Ax Go.Tx
set_option maxRecDepth 100000
set_option maxHeartbeats 0
variable {Γ : List (Nat × List D)}
theorem c195 (c : Nat) : AFn Tryz.prog Γ 195 [.c (.d (.int .i64 c))] [.d (.bool (blankR c))] := by
  refine AFn.vc [] Tryz.func195 rfl Tryz.mixed (by kernel_rfl) Tryz.ntmps195 Tryz.results195 (by simp) ?_
  push_cast
  unfold blankR
  refine ⟨fun h => ?_, fun h => ?_⟩
  · rw [decide_eq_false (by omega : ¬ c = 32), Bool.false_or]
    exact decide_eq_decide.2 (by omega)
  · rw [decide_eq_true (by omega : c = 32)]; rfl
theorem c72_p0 (s : List UInt8) (i b c : Nat) (hi : i < s.length) (hs : s.length ≤ 9000000) (ha : s[i].toNat < 256) (hb : b < 256) (hc : c < 256) (eb : ∀ (z : Nat) (hz : z = i + 1) (h : z < s.length), s[z].toNat = b) (ec : ∀ (z : Nat) (hz : z = i + 2) (h : z < s.length), s[z].toNat = c) (p : 32 ≤ s[i].toNat ∧ s[i].toNat < 127) : AFn Tryz.prog Γ 72 [.c (.d (.str s)), .c (.d (.int .i64 i))] [.d (.int .i64 (dec3 s[i].toNat b c (s.length - i)).1), .d (.int .i64 (dec3 s[i].toNat b c (s.length - i)).2)] := by
  have hA1 : (32 ≤ (s[i].toNat : Int)) = True := eq_true (by omega)
  have hA2 : ((s[i].toNat : Int) < 127) = True := eq_true (by omega)
  have e : dec3 s[i].toNat b c (s.length - i) = (s[i].toNat, 1) := by unfold dec3; rw [if_pos (by omega)]
  rw [e]
  clear e
  refine AFn.vc [] Tryz.func72 rfl Tryz.mixed (by kernel_rfl) Tryz.ntmps72 Tryz.results72 (by simp) ?_
  push_cast [hA1, hA2]
  repeat' (first | apply And.intro | intro _ | refine Exists.intro (by omega) ?_)
  all_goals first | omega | rfl
theorem c72_p1 (s : List UInt8) (i b c : Nat) (hi : i < s.length) (hs : s.length ≤ 9000000) (ha : s[i].toNat < 256) (hb : b < 256) (hc : c < 256) (eb : ∀ (z : Nat) (hz : z = i + 1) (h : z < s.length), s[z].toNat = b) (ec : ∀ (z : Nat) (hz : z = i + 2) (h : z < s.length), s[z].toNat = c) (p : s[i].toNat < 32) : AFn Tryz.prog Γ 72 [.c (.d (.str s)), .c (.d (.int .i64 i))] [.d (.int .i64 (dec3 s[i].toNat b c (s.length - i)).1), .d (.int .i64 (dec3 s[i].toNat b c (s.length - i)).2)] := by
  have hA1 : (32 ≤ (s[i].toNat : Int)) = False := eq_false (by omega)
  have hB1 : (194 ≤ (s[i].toNat : Int)) = False := eq_false (by omega)
  have hC1 : (224 ≤ (s[i].toNat : Int)) = False := eq_false (by omega)
  have e : dec3 s[i].toNat b c (s.length - i) = (0, 0) := by unfold dec3; rw [if_neg (by omega), if_neg (by omega), if_neg (by omega)]
  rw [e]
  clear e
  refine AFn.vc [] Tryz.func72 rfl Tryz.mixed (by kernel_rfl) Tryz.ntmps72 Tryz.results72 (by simp) ?_
  push_cast [hA1, hB1, hC1]
  repeat' (first | apply And.intro | intro _ | refine Exists.intro (by omega) ?_)
  all_goals first | omega | rfl
theorem c72_p2 (s : List UInt8) (i b c : Nat) (hi : i < s.length) (hs : s.length ≤ 9000000) (ha : s[i].toNat < 256) (hb : b < 256) (hc : c < 256) (eb : ∀ (z : Nat) (hz : z = i + 1) (h : z < s.length), s[z].toNat = b) (ec : ∀ (z : Nat) (hz : z = i + 2) (h : z < s.length), s[z].toNat = c) (p : 127 ≤ s[i].toNat ∧ s[i].toNat < 194) : AFn Tryz.prog Γ 72 [.c (.d (.str s)), .c (.d (.int .i64 i))] [.d (.int .i64 (dec3 s[i].toNat b c (s.length - i)).1), .d (.int .i64 (dec3 s[i].toNat b c (s.length - i)).2)] := by
  have hA1 : (32 ≤ (s[i].toNat : Int)) = True := eq_true (by omega)
  have hA2 : ((s[i].toNat : Int) < 127) = False := eq_false (by omega)
  have hB1 : (194 ≤ (s[i].toNat : Int)) = False := eq_false (by omega)
  have hC1 : (224 ≤ (s[i].toNat : Int)) = False := eq_false (by omega)
  have e : dec3 s[i].toNat b c (s.length - i) = (0, 0) := by unfold dec3; rw [if_neg (by omega), if_neg (by omega), if_neg (by omega)]
  rw [e]
  clear e
  refine AFn.vc [] Tryz.func72 rfl Tryz.mixed (by kernel_rfl) Tryz.ntmps72 Tryz.results72 (by simp) ?_
  push_cast [hA1, hA2, hB1, hC1]
  repeat' (first | apply And.intro | intro _ | refine Exists.intro (by omega) ?_)
  all_goals first | omega | rfl
theorem c72_p3 (s : List UInt8) (i b c : Nat) (hi : i < s.length) (hs : s.length ≤ 9000000) (ha : s[i].toNat < 256) (hb : b < 256) (hc : c < 256) (eb : ∀ (z : Nat) (hz : z = i + 1) (h : z < s.length), s[z].toNat = b) (ec : ∀ (z : Nat) (hz : z = i + 2) (h : z < s.length), s[z].toNat = c) (p : 194 ≤ s[i].toNat ∧ s[i].toNat < 224 ∧ ¬ i + 1 < s.length) : AFn Tryz.prog Γ 72 [.c (.d (.str s)), .c (.d (.int .i64 i))] [.d (.int .i64 (dec3 s[i].toNat b c (s.length - i)).1), .d (.int .i64 (dec3 s[i].toNat b c (s.length - i)).2)] := by
  have hA1 : (32 ≤ (s[i].toNat : Int)) = True := eq_true (by omega)
  have hA2 : ((s[i].toNat : Int) < 127) = False := eq_false (by omega)
  have hB1 : (194 ≤ (s[i].toNat : Int)) = True := eq_true (by omega)
  have hB2 : ((s[i].toNat : Int) < 224) = True := eq_true (by omega)
  have hB3 : ((i : Int) + 1 < (s.length : Int)) = False := eq_false (by omega)
  have hC1 : (224 ≤ (s[i].toNat : Int)) = False := eq_false (by omega)
  have e : dec3 s[i].toNat b c (s.length - i) = (0, 0) := by unfold dec3; rw [if_neg (by omega), if_neg (by omega), if_neg (by omega)]
  rw [e]
  clear e
  refine AFn.vc [] Tryz.func72 rfl Tryz.mixed (by kernel_rfl) Tryz.ntmps72 Tryz.results72 (by simp) ?_
  push_cast [hA1, hA2, hB1, hB2, hB3, hC1]
  repeat' (first | apply And.intro | intro _ | refine Exists.intro (by omega) ?_)
  all_goals first | omega | rfl
theorem c72_p4 (s : List UInt8) (i b c : Nat) (hi : i < s.length) (hs : s.length ≤ 9000000) (ha : s[i].toNat < 256) (hb : b < 256) (hc : c < 256) (eb : ∀ (z : Nat) (hz : z = i + 1) (h : z < s.length), s[z].toNat = b) (ec : ∀ (z : Nat) (hz : z = i + 2) (h : z < s.length), s[z].toNat = c) (p : 194 ≤ s[i].toNat ∧ s[i].toNat < 224 ∧ i + 1 < s.length ∧ b < 128) : AFn Tryz.prog Γ 72 [.c (.d (.str s)), .c (.d (.int .i64 i))] [.d (.int .i64 (dec3 s[i].toNat b c (s.length - i)).1), .d (.int .i64 (dec3 s[i].toNat b c (s.length - i)).2)] := by
  have hA1 : (32 ≤ (s[i].toNat : Int)) = True := eq_true (by omega)
  have hA2 : ((s[i].toNat : Int) < 127) = False := eq_false (by omega)
  have hB1 : (194 ≤ (s[i].toNat : Int)) = True := eq_true (by omega)
  have hB2 : ((s[i].toNat : Int) < 224) = True := eq_true (by omega)
  have hB3 : ((i : Int) + 1 < (s.length : Int)) = True := eq_true (by omega)
  have hB4 : ∀ h, (128 ≤ ((s[((i : Int) + 1).toNat]'h).toNat : Int)) = False := fun h => by have := eb _ (by omega) h; exact eq_false (by omega)
  have hC1 : (224 ≤ (s[i].toNat : Int)) = False := eq_false (by omega)
  have e : dec3 s[i].toNat b c (s.length - i) = (0, 0) := by unfold dec3; rw [if_neg (by omega), if_neg (by omega), if_neg (by omega)]
  rw [e]
  clear e
  refine AFn.vc [] Tryz.func72 rfl Tryz.mixed (by kernel_rfl) Tryz.ntmps72 Tryz.results72 (by simp) ?_
  push_cast [hA1, hA2, hB1, hB2, hB3, hB4, hC1]
  repeat' (first | apply And.intro | intro _ | refine Exists.intro (by omega) ?_)
  all_goals first | omega | rfl
theorem c72_p5 (s : List UInt8) (i b c : Nat) (hi : i < s.length) (hs : s.length ≤ 9000000) (ha : s[i].toNat < 256) (hb : b < 256) (hc : c < 256) (eb : ∀ (z : Nat) (hz : z = i + 1) (h : z < s.length), s[z].toNat = b) (ec : ∀ (z : Nat) (hz : z = i + 2) (h : z < s.length), s[z].toNat = c) (p : 194 ≤ s[i].toNat ∧ s[i].toNat < 224 ∧ i + 1 < s.length ∧ 192 ≤ b) : AFn Tryz.prog Γ 72 [.c (.d (.str s)), .c (.d (.int .i64 i))] [.d (.int .i64 (dec3 s[i].toNat b c (s.length - i)).1), .d (.int .i64 (dec3 s[i].toNat b c (s.length - i)).2)] := by
  have hA1 : (32 ≤ (s[i].toNat : Int)) = True := eq_true (by omega)
  have hA2 : ((s[i].toNat : Int) < 127) = False := eq_false (by omega)
  have hB1 : (194 ≤ (s[i].toNat : Int)) = True := eq_true (by omega)
  have hB2 : ((s[i].toNat : Int) < 224) = True := eq_true (by omega)
  have hB3 : ((i : Int) + 1 < (s.length : Int)) = True := eq_true (by omega)
  have hB4 : ∀ h, (128 ≤ ((s[((i : Int) + 1).toNat]'h).toNat : Int)) = True := fun h => by have := eb _ (by omega) h; exact eq_true (by omega)
  have hB5 : ∀ h, (((s[((i : Int) + 1).toNat]'h).toNat : Int) < 192) = False := fun h => by have := eb _ (by omega) h; exact eq_false (by omega)
  have hC1 : (224 ≤ (s[i].toNat : Int)) = False := eq_false (by omega)
  have e : dec3 s[i].toNat b c (s.length - i) = (0, 0) := by unfold dec3; rw [if_neg (by omega), if_neg (by omega), if_neg (by omega)]
  rw [e]
  clear e
  refine AFn.vc [] Tryz.func72 rfl Tryz.mixed (by kernel_rfl) Tryz.ntmps72 Tryz.results72 (by simp) ?_
  push_cast [hA1, hA2, hB1, hB2, hB3, hB4, hB5, hC1]
  repeat' (first | apply And.intro | intro _ | refine Exists.intro (by omega) ?_)
  all_goals first | omega | rfl
theorem c72_p6 (s : List UInt8) (i b c : Nat) (hi : i < s.length) (hs : s.length ≤ 9000000) (ha : s[i].toNat < 256) (hb : b < 256) (hc : c < 256) (eb : ∀ (z : Nat) (hz : z = i + 1) (h : z < s.length), s[z].toNat = b) (ec : ∀ (z : Nat) (hz : z = i + 2) (h : z < s.length), s[z].toNat = c) (p : 194 ≤ s[i].toNat ∧ s[i].toNat < 224 ∧ i + 1 < s.length ∧ 128 ≤ b ∧ b < 192) : AFn Tryz.prog Γ 72 [.c (.d (.str s)), .c (.d (.int .i64 i))] [.d (.int .i64 (dec3 s[i].toNat b c (s.length - i)).1), .d (.int .i64 (dec3 s[i].toNat b c (s.length - i)).2)] := by
  have hA1 : (32 ≤ (s[i].toNat : Int)) = True := eq_true (by omega)
  have hA2 : ((s[i].toNat : Int) < 127) = False := eq_false (by omega)
  have hB1 : (194 ≤ (s[i].toNat : Int)) = True := eq_true (by omega)
  have hB2 : ((s[i].toNat : Int) < 224) = True := eq_true (by omega)
  have hB3 : ((i : Int) + 1 < (s.length : Int)) = True := eq_true (by omega)
  have hB4 : ∀ h, (128 ≤ ((s[((i : Int) + 1).toNat]'h).toNat : Int)) = True := fun h => by have := eb _ (by omega) h; exact eq_true (by omega)
  have hB5 : ∀ h, (((s[((i : Int) + 1).toNat]'h).toNat : Int) < 192) = True := fun h => by have := eb _ (by omega) h; exact eq_true (by omega)
  have e : dec3 s[i].toNat b c (s.length - i) = if 160 ≤ (s[i].toNat - 192) * 64 + (b - 128) then ((s[i].toNat - 192) * 64 + (b - 128), 2) else (0, 0) := by unfold dec3; rw [if_neg (by omega), if_pos (by omega)]
  rw [e]
  clear e
  refine AFn.vc [] Tryz.func72 rfl Tryz.mixed (by kernel_rfl) Tryz.ntmps72 Tryz.results72 (by simp) ?_
  push_cast [hA1, hA2, hB1, hB2, hB3, hB4, hB5]
  have fb : ∀ h : ((i : Int) + 1).toNat < s.length, (s[((i : Int) + 1).toNat]'h).toNat = b := fun h => eb _ (by omega) h
  have fc : ∀ h : ((i : Int) + 2).toNat < s.length, (s[((i : Int) + 2).toNat]'h).toNat = c := fun h => ec _ (by omega) h
  simp only [fb, fc]
  clear fb fc eb ec hA1 hA2 hB1 hB2 hB4 hB5
  repeat' (first | apply And.intro | intro _ | refine Exists.intro (by omega) ?_)
  all_goals first
    | omega
    | (rw [if_pos (by omega)]; simp only; omega)
    | (rw [if_neg (by omega)]; rfl)
theorem c72_p7 (s : List UInt8) (i b c : Nat) (hi : i < s.length) (hs : s.length ≤ 9000000) (ha : s[i].toNat < 256) (hb : b < 256) (hc : c < 256) (eb : ∀ (z : Nat) (hz : z = i + 1) (h : z < s.length), s[z].toNat = b) (ec : ∀ (z : Nat) (hz : z = i + 2) (h : z < s.length), s[z].toNat = c) (p : 240 ≤ s[i].toNat) : AFn Tryz.prog Γ 72 [.c (.d (.str s)), .c (.d (.int .i64 i))] [.d (.int .i64 (dec3 s[i].toNat b c (s.length - i)).1), .d (.int .i64 (dec3 s[i].toNat b c (s.length - i)).2)] := by
  have hA1 : (32 ≤ (s[i].toNat : Int)) = True := eq_true (by omega)
  have hA2 : ((s[i].toNat : Int) < 127) = False := eq_false (by omega)
  have hB1 : (194 ≤ (s[i].toNat : Int)) = True := eq_true (by omega)
  have hB2 : ((s[i].toNat : Int) < 224) = False := eq_false (by omega)
  have hC1 : (224 ≤ (s[i].toNat : Int)) = True := eq_true (by omega)
  have hC2 : ((s[i].toNat : Int) < 240) = False := eq_false (by omega)
  have e : dec3 s[i].toNat b c (s.length - i) = (0, 0) := by unfold dec3; rw [if_neg (by omega), if_neg (by omega), if_neg (by omega)]
  rw [e]
  clear e
  refine AFn.vc [] Tryz.func72 rfl Tryz.mixed (by kernel_rfl) Tryz.ntmps72 Tryz.results72 (by simp) ?_
  push_cast [hA1, hA2, hB1, hB2, hC1, hC2]
  repeat' (first | apply And.intro | intro _ | refine Exists.intro (by omega) ?_)
  all_goals first | omega | rfl
theorem c72_p8 (s : List UInt8) (i b c : Nat) (hi : i < s.length) (hs : s.length ≤ 9000000) (ha : s[i].toNat < 256) (hb : b < 256) (hc : c < 256) (eb : ∀ (z : Nat) (hz : z = i + 1) (h : z < s.length), s[z].toNat = b) (ec : ∀ (z : Nat) (hz : z = i + 2) (h : z < s.length), s[z].toNat = c) (p : 224 ≤ s[i].toNat ∧ s[i].toNat < 240 ∧ ¬ i + 2 < s.length) : AFn Tryz.prog Γ 72 [.c (.d (.str s)), .c (.d (.int .i64 i))] [.d (.int .i64 (dec3 s[i].toNat b c (s.length - i)).1), .d (.int .i64 (dec3 s[i].toNat b c (s.length - i)).2)] := by
  have hA1 : (32 ≤ (s[i].toNat : Int)) = True := eq_true (by omega)
  have hA2 : ((s[i].toNat : Int) < 127) = False := eq_false (by omega)
  have hB1 : (194 ≤ (s[i].toNat : Int)) = True := eq_true (by omega)
  have hB2 : ((s[i].toNat : Int) < 224) = False := eq_false (by omega)
  have hC1 : (224 ≤ (s[i].toNat : Int)) = True := eq_true (by omega)
  have hC2 : ((s[i].toNat : Int) < 240) = True := eq_true (by omega)
  have hC3 : ((i : Int) + 2 < (s.length : Int)) = False := eq_false (by omega)
  have e : dec3 s[i].toNat b c (s.length - i) = (0, 0) := by unfold dec3; rw [if_neg (by omega), if_neg (by omega), if_neg (by omega)]
  rw [e]
  clear e
  refine AFn.vc [] Tryz.func72 rfl Tryz.mixed (by kernel_rfl) Tryz.ntmps72 Tryz.results72 (by simp) ?_
  push_cast [hA1, hA2, hB1, hB2, hC1, hC2, hC3]
  repeat' (first | apply And.intro | intro _ | refine Exists.intro (by omega) ?_)
  all_goals first | omega | rfl
theorem c72_p9 (s : List UInt8) (i b c : Nat) (hi : i < s.length) (hs : s.length ≤ 9000000) (ha : s[i].toNat < 256) (hb : b < 256) (hc : c < 256) (eb : ∀ (z : Nat) (hz : z = i + 1) (h : z < s.length), s[z].toNat = b) (ec : ∀ (z : Nat) (hz : z = i + 2) (h : z < s.length), s[z].toNat = c) (p : 224 ≤ s[i].toNat ∧ s[i].toNat < 240 ∧ i + 2 < s.length ∧ b < 128) : AFn Tryz.prog Γ 72 [.c (.d (.str s)), .c (.d (.int .i64 i))] [.d (.int .i64 (dec3 s[i].toNat b c (s.length - i)).1), .d (.int .i64 (dec3 s[i].toNat b c (s.length - i)).2)] := by
  have hA1 : (32 ≤ (s[i].toNat : Int)) = True := eq_true (by omega)
  have hA2 : ((s[i].toNat : Int) < 127) = False := eq_false (by omega)
  have hB1 : (194 ≤ (s[i].toNat : Int)) = True := eq_true (by omega)
  have hB2 : ((s[i].toNat : Int) < 224) = False := eq_false (by omega)
  have hC1 : (224 ≤ (s[i].toNat : Int)) = True := eq_true (by omega)
  have hC2 : ((s[i].toNat : Int) < 240) = True := eq_true (by omega)
  have hC3 : ((i : Int) + 2 < (s.length : Int)) = True := eq_true (by omega)
  have hB4 : ∀ h, (128 ≤ ((s[((i : Int) + 1).toNat]'h).toNat : Int)) = False := fun h => by have := eb _ (by omega) h; exact eq_false (by omega)
  have e : dec3 s[i].toNat b c (s.length - i) = (0, 0) := by unfold dec3; rw [if_neg (by omega), if_neg (by omega), if_neg (by omega)]
  rw [e]
  clear e
  refine AFn.vc [] Tryz.func72 rfl Tryz.mixed (by kernel_rfl) Tryz.ntmps72 Tryz.results72 (by simp) ?_
  push_cast [hA1, hA2, hB1, hB2, hC1, hC2, hC3, hB4]
  repeat' (first | apply And.intro | intro _ | refine Exists.intro (by omega) ?_)
  all_goals first | omega | rfl
theorem c72_p10 (s : List UInt8) (i b c : Nat) (hi : i < s.length) (hs : s.length ≤ 9000000) (ha : s[i].toNat < 256) (hb : b < 256) (hc : c < 256) (eb : ∀ (z : Nat) (hz : z = i + 1) (h : z < s.length), s[z].toNat = b) (ec : ∀ (z : Nat) (hz : z = i + 2) (h : z < s.length), s[z].toNat = c) (p : 224 ≤ s[i].toNat ∧ s[i].toNat < 240 ∧ i + 2 < s.length ∧ 192 ≤ b) : AFn Tryz.prog Γ 72 [.c (.d (.str s)), .c (.d (.int .i64 i))] [.d (.int .i64 (dec3 s[i].toNat b c (s.length - i)).1), .d (.int .i64 (dec3 s[i].toNat b c (s.length - i)).2)] := by
  have hA1 : (32 ≤ (s[i].toNat : Int)) = True := eq_true (by omega)
  have hA2 : ((s[i].toNat : Int) < 127) = False := eq_false (by omega)
  have hB1 : (194 ≤ (s[i].toNat : Int)) = True := eq_true (by omega)
  have hB2 : ((s[i].toNat : Int) < 224) = False := eq_false (by omega)
  have hC1 : (224 ≤ (s[i].toNat : Int)) = True := eq_true (by omega)
  have hC2 : ((s[i].toNat : Int) < 240) = True := eq_true (by omega)
  have hC3 : ((i : Int) + 2 < (s.length : Int)) = True := eq_true (by omega)
  have hB4 : ∀ h, (128 ≤ ((s[((i : Int) + 1).toNat]'h).toNat : Int)) = True := fun h => by have := eb _ (by omega) h; exact eq_true (by omega)
  have hB5 : ∀ h, (((s[((i : Int) + 1).toNat]'h).toNat : Int) < 192) = False := fun h => by have := eb _ (by omega) h; exact eq_false (by omega)
  have e : dec3 s[i].toNat b c (s.length - i) = (0, 0) := by unfold dec3; rw [if_neg (by omega), if_neg (by omega), if_neg (by omega)]
  rw [e]
  clear e
  refine AFn.vc [] Tryz.func72 rfl Tryz.mixed (by kernel_rfl) Tryz.ntmps72 Tryz.results72 (by simp) ?_
  push_cast [hA1, hA2, hB1, hB2, hC1, hC2, hC3, hB4, hB5]
  repeat' (first | apply And.intro | intro _ | refine Exists.intro (by omega) ?_)
  all_goals first | omega | rfl
theorem c72_p11 (s : List UInt8) (i b c : Nat) (hi : i < s.length) (hs : s.length ≤ 9000000) (ha : s[i].toNat < 256) (hb : b < 256) (hc : c < 256) (eb : ∀ (z : Nat) (hz : z = i + 1) (h : z < s.length), s[z].toNat = b) (ec : ∀ (z : Nat) (hz : z = i + 2) (h : z < s.length), s[z].toNat = c) (p : 224 ≤ s[i].toNat ∧ s[i].toNat < 240 ∧ i + 2 < s.length ∧ 128 ≤ b ∧ b < 192 ∧ c < 128) : AFn Tryz.prog Γ 72 [.c (.d (.str s)), .c (.d (.int .i64 i))] [.d (.int .i64 (dec3 s[i].toNat b c (s.length - i)).1), .d (.int .i64 (dec3 s[i].toNat b c (s.length - i)).2)] := by
  have hA1 : (32 ≤ (s[i].toNat : Int)) = True := eq_true (by omega)
  have hA2 : ((s[i].toNat : Int) < 127) = False := eq_false (by omega)
  have hB1 : (194 ≤ (s[i].toNat : Int)) = True := eq_true (by omega)
  have hB2 : ((s[i].toNat : Int) < 224) = False := eq_false (by omega)
  have hC1 : (224 ≤ (s[i].toNat : Int)) = True := eq_true (by omega)
  have hC2 : ((s[i].toNat : Int) < 240) = True := eq_true (by omega)
  have hC3 : ((i : Int) + 2 < (s.length : Int)) = True := eq_true (by omega)
  have hB4 : ∀ h, (128 ≤ ((s[((i : Int) + 1).toNat]'h).toNat : Int)) = True := fun h => by have := eb _ (by omega) h; exact eq_true (by omega)
  have hB5 : ∀ h, (((s[((i : Int) + 1).toNat]'h).toNat : Int) < 192) = True := fun h => by have := eb _ (by omega) h; exact eq_true (by omega)
  have hC6 : ∀ h, (128 ≤ ((s[((i : Int) + 2).toNat]'h).toNat : Int)) = False := fun h => by have := ec _ (by omega) h; exact eq_false (by omega)
  have e : dec3 s[i].toNat b c (s.length - i) = (0, 0) := by unfold dec3; rw [if_neg (by omega), if_neg (by omega), if_neg (by omega)]
  rw [e]
  clear e
  refine AFn.vc [] Tryz.func72 rfl Tryz.mixed (by kernel_rfl) Tryz.ntmps72 Tryz.results72 (by simp) ?_
  push_cast [hA1, hA2, hB1, hB2, hC1, hC2, hC3, hB4, hB5, hC6]
  repeat' (first | apply And.intro | intro _ | refine Exists.intro (by omega) ?_)
  all_goals first | omega | rfl
theorem c72_p12 (s : List UInt8) (i b c : Nat) (hi : i < s.length) (hs : s.length ≤ 9000000) (ha : s[i].toNat < 256) (hb : b < 256) (hc : c < 256) (eb : ∀ (z : Nat) (hz : z = i + 1) (h : z < s.length), s[z].toNat = b) (ec : ∀ (z : Nat) (hz : z = i + 2) (h : z < s.length), s[z].toNat = c) (p : 224 ≤ s[i].toNat ∧ s[i].toNat < 240 ∧ i + 2 < s.length ∧ 128 ≤ b ∧ b < 192 ∧ 192 ≤ c) : AFn Tryz.prog Γ 72 [.c (.d (.str s)), .c (.d (.int .i64 i))] [.d (.int .i64 (dec3 s[i].toNat b c (s.length - i)).1), .d (.int .i64 (dec3 s[i].toNat b c (s.length - i)).2)] := by
  have hA1 : (32 ≤ (s[i].toNat : Int)) = True := eq_true (by omega)
  have hA2 : ((s[i].toNat : Int) < 127) = False := eq_false (by omega)
  have hB1 : (194 ≤ (s[i].toNat : Int)) = True := eq_true (by omega)
  have hB2 : ((s[i].toNat : Int) < 224) = False := eq_false (by omega)
  have hC1 : (224 ≤ (s[i].toNat : Int)) = True := eq_true (by omega)
  have hC2 : ((s[i].toNat : Int) < 240) = True := eq_true (by omega)
  have hC3 : ((i : Int) + 2 < (s.length : Int)) = True := eq_true (by omega)
  have hB4 : ∀ h, (128 ≤ ((s[((i : Int) + 1).toNat]'h).toNat : Int)) = True := fun h => by have := eb _ (by omega) h; exact eq_true (by omega)
  have hB5 : ∀ h, (((s[((i : Int) + 1).toNat]'h).toNat : Int) < 192) = True := fun h => by have := eb _ (by omega) h; exact eq_true (by omega)
  have hC6 : ∀ h, (128 ≤ ((s[((i : Int) + 2).toNat]'h).toNat : Int)) = True := fun h => by have := ec _ (by omega) h; exact eq_true (by omega)
  have hC7 : ∀ h, (((s[((i : Int) + 2).toNat]'h).toNat : Int) < 192) = False := fun h => by have := ec _ (by omega) h; exact eq_false (by omega)
  have e : dec3 s[i].toNat b c (s.length - i) = (0, 0) := by unfold dec3; rw [if_neg (by omega), if_neg (by omega), if_neg (by omega)]
  rw [e]
  clear e
  refine AFn.vc [] Tryz.func72 rfl Tryz.mixed (by kernel_rfl) Tryz.ntmps72 Tryz.results72 (by simp) ?_
  push_cast [hA1, hA2, hB1, hB2, hC1, hC2, hC3, hB4, hB5, hC6, hC7]
  repeat' (first | apply And.intro | intro _ | refine Exists.intro (by omega) ?_)
  all_goals first | omega | rfl
theorem c72_p13 (s : List UInt8) (i b c : Nat) (hi : i < s.length) (hs : s.length ≤ 9000000) (ha : s[i].toNat < 256) (hb : b < 256) (hc : c < 256) (eb : ∀ (z : Nat) (hz : z = i + 1) (h : z < s.length), s[z].toNat = b) (ec : ∀ (z : Nat) (hz : z = i + 2) (h : z < s.length), s[z].toNat = c) (p : 224 ≤ s[i].toNat ∧ s[i].toNat < 240 ∧ i + 2 < s.length ∧ 128 ≤ b ∧ b < 192 ∧ 128 ≤ c ∧ c < 192) : AFn Tryz.prog Γ 72 [.c (.d (.str s)), .c (.d (.int .i64 i))] [.d (.int .i64 (dec3 s[i].toNat b c (s.length - i)).1), .d (.int .i64 (dec3 s[i].toNat b c (s.length - i)).2)] := by
  have hA1 : (32 ≤ (s[i].toNat : Int)) = True := eq_true (by omega)
  have hA2 : ((s[i].toNat : Int) < 127) = False := eq_false (by omega)
  have hB1 : (194 ≤ (s[i].toNat : Int)) = True := eq_true (by omega)
  have hB2 : ((s[i].toNat : Int) < 224) = False := eq_false (by omega)
  have hC1 : (224 ≤ (s[i].toNat : Int)) = True := eq_true (by omega)
  have hC2 : ((s[i].toNat : Int) < 240) = True := eq_true (by omega)
  have hC3 : ((i : Int) + 2 < (s.length : Int)) = True := eq_true (by omega)
  have hB4 : ∀ h, (128 ≤ ((s[((i : Int) + 1).toNat]'h).toNat : Int)) = True := fun h => by have := eb _ (by omega) h; exact eq_true (by omega)
  have hB5 : ∀ h, (((s[((i : Int) + 1).toNat]'h).toNat : Int) < 192) = True := fun h => by have := eb _ (by omega) h; exact eq_true (by omega)
  have hC6 : ∀ h, (128 ≤ ((s[((i : Int) + 2).toNat]'h).toNat : Int)) = True := fun h => by have := ec _ (by omega) h; exact eq_true (by omega)
  have hC7 : ∀ h, (((s[((i : Int) + 2).toNat]'h).toNat : Int) < 192) = True := fun h => by have := ec _ (by omega) h; exact eq_true (by omega)
  have e : dec3 s[i].toNat b c (s.length - i) = if 2048 ≤ (s[i].toNat - 224) * 4096 + (b - 128) * 64 + (c - 128) ∧ ((s[i].toNat - 224) * 4096 + (b - 128) * 64 + (c - 128) < 55296 ∨ 57343 < (s[i].toNat - 224) * 4096 + (b - 128) * 64 + (c - 128)) then ((s[i].toNat - 224) * 4096 + (b - 128) * 64 + (c - 128), 3) else (0, 0) := by unfold dec3; rw [if_neg (by omega), if_neg (by omega), if_pos (by omega)]
  rw [e]
  clear e
  refine AFn.vc [] Tryz.func72 rfl Tryz.mixed (by kernel_rfl) Tryz.ntmps72 Tryz.results72 (by simp) ?_
  push_cast [hA1, hA2, hB1, hB2, hC1, hC2, hC3, hB4, hB5, hC6, hC7]
  have fb : ∀ h : ((i : Int) + 1).toNat < s.length, (s[((i : Int) + 1).toNat]'h).toNat = b := fun h => eb _ (by omega) h
  have fc : ∀ h : ((i : Int) + 2).toNat < s.length, (s[((i : Int) + 2).toNat]'h).toNat = c := fun h => ec _ (by omega) h
  simp only [fb, fc]
  clear fb fc eb ec hA1 hA2 hB1 hB2 hB4 hB5
  repeat' (first | apply And.intro | intro _ | refine Exists.intro (by omega) ?_)
  all_goals first
    | omega
    | (rw [if_pos (by omega)]; simp only; omega)
    | (rw [if_neg (by omega)]; rfl)
theorem c72 (s : List UInt8) (i : Nat) (hi : i < s.length) (hs : s.length ≤ 9000000) : AFn Tryz.prog Γ 72 [.c (.d (.str s)), .c (.d (.int .i64 i))] [.d (.int .i64 (decF (s.drop i)).1), .d (.int .i64 (decF (s.drop i)).2)] := by
  have ea : ((s.drop i).getD 0 0) = s[i] := by simp [List.getD_eq_getElem?_getD, hi]
  have eb : ∀ (z : Nat) (hz : z = i + 1) (h : z < s.length), s[z].toNat = ((s.drop i).getD 1 0).toNat := fun z hz h => by subst hz; simp [List.getD_eq_getElem?_getD, h]
  have ec : ∀ (z : Nat) (hz : z = i + 2) (h : z < s.length), s[z].toNat = ((s.drop i).getD 2 0).toNat := fun z hz h => by subst hz; simp [List.getD_eq_getElem?_getD, h]
  have en : (s.drop i).length = s.length - i := by simp
  unfold decF
  rw [ea, en]
  have hb : ((s.drop i).getD 1 0).toNat < 256 := UInt8.toNat_lt _
  have hc : ((s.drop i).getD 2 0).toNat < 256 := UInt8.toNat_lt _
  have ha : s[i].toNat < 256 := UInt8.toNat_lt _
  generalize ((s.drop i).getD 1 0).toNat = b at *
  generalize ((s.drop i).getD 2 0).toNat = c at *
  by_cases a1 : s[i].toNat < 32
  · exact c72_p1 s i b c hi hs ha hb hc eb ec a1
  by_cases a2 : s[i].toNat < 127
  · exact c72_p0 s i b c hi hs ha hb hc eb ec ⟨by omega, a2⟩
  by_cases a3 : s[i].toNat < 194
  · exact c72_p2 s i b c hi hs ha hb hc eb ec ⟨by omega, a3⟩
  by_cases a4 : s[i].toNat < 224
  · by_cases n1 : i + 1 < s.length
    · by_cases b1 : b < 128
      · exact c72_p4 s i b c hi hs ha hb hc eb ec ⟨by omega, a4, n1, b1⟩
      by_cases b2 : b < 192
      · exact c72_p6 s i b c hi hs ha hb hc eb ec ⟨by omega, a4, n1, by omega, b2⟩
      · exact c72_p5 s i b c hi hs ha hb hc eb ec ⟨by omega, a4, n1, by omega⟩
    · exact c72_p3 s i b c hi hs ha hb hc eb ec ⟨by omega, a4, n1⟩
  by_cases a5 : s[i].toNat < 240
  · by_cases n2 : i + 2 < s.length
    · by_cases b1 : b < 128
      · exact c72_p9 s i b c hi hs ha hb hc eb ec ⟨by omega, a5, n2, b1⟩
      by_cases b2 : b < 192
      · by_cases c1 : c < 128
        · exact c72_p11 s i b c hi hs ha hb hc eb ec ⟨by omega, a5, n2, by omega, b2, c1⟩
        by_cases c2 : c < 192
        · exact c72_p13 s i b c hi hs ha hb hc eb ec ⟨by omega, a5, n2, by omega, b2, by omega, c2⟩
        · exact c72_p12 s i b c hi hs ha hb hc eb ec ⟨by omega, a5, n2, by omega, b2, by omega⟩
      · exact c72_p10 s i b c hi hs ha hb hc eb ec ⟨by omega, a5, n2, by omega⟩
    · exact c72_p8 s i b c hi hs ha hb hc eb ec ⟨by omega, a5, n2⟩
  · exact c72_p7 s i b c hi hs ha hb hc eb ec (by omega)
theorem c194 (s : List UInt8) (i : Nat) (hi : i < s.length) (hs : s.length ≤ 9000000) : AFn Tryz.prog Γ 194 [.c (.d (.str s)), .c (.d (.int .i64 i))] [.d (.int .i64 ((max (decF (s.drop i)).2 1 : Nat) : Int))] := by
  refine AFn.vc [] Tryz.func194 rfl Tryz.mixed (by kernel_rfl) Tryz.ntmps194 Tryz.results194 (by simp) ?_
  push_cast
  refine CallL.q (c72 s i hi hs) ?_
  push_cast
  unfold imax
  split <;> omega
theorem cleanG_fuel : ∀ (n m : Nat) (l : List UInt8) (st : List UInt8 × Bool), l.length ≤ n → l.length ≤ m → cleanG n l st = cleanG m l st
  | 0, 0, _, _, _, _ => rfl
  | 0, m + 1, l, st, h, _ => by obtain rfl : l = [] := List.length_eq_zero_iff.1 (by omega); simp [cleanG]
  | n + 1, 0, l, st, _, h => by obtain rfl : l = [] := List.length_eq_zero_iff.1 (by omega); simp [cleanG]
  | n + 1, m + 1, l, st, h1, h2 => by
    unfold cleanG
    split
    · rfl
    · next hne =>
      have : 1 ≤ l.length := List.length_pos_iff.2 hne
      exact cleanG_fuel n m _ _ (by rw [List.length_drop]; omega) (by rw [List.length_drop]; omega)
theorem clean_at {s : List UInt8} {k : Nat} (hk : k < s.length) (st : List UInt8 × Bool) : cleanG (s.length - k) (s.drop k) st =
    cleanG (s.length - (k + max (decF (s.drop k)).2 1)) (s.drop (k + max (decF (s.drop k)).2 1)) (cleanStep st (decF (s.drop k)).1 ((s.drop k).take (max (decF (s.drop k)).2 1))) := by
  obtain ⟨m, hm⟩ : ∃ m, s.length - k = m + 1 := ⟨s.length - k - 1, by omega⟩
  have hne : s.drop k ≠ [] := by intro e; have := congrArg List.length e; rw [List.length_drop] at this; simp at this; omega
  rw [hm]
  show (if s.drop k = [] then st.1 else cleanG m ((s.drop k).drop (max (decF (s.drop k)).2 1)) _) = _
  rw [if_neg hne, List.drop_drop]
  exact cleanG_fuel _ _ _ _ (by rw [List.length_drop]; omega) (by rw [List.length_drop]; omega)
theorem dec_at {s : List UInt8} {k : Nat} (hk : k < s.length) : k + (decF (s.drop k)).2 ≤ s.length := by
  have hne : s.drop k ≠ [] := by intro e; have := congrArg List.length e; rw [List.length_drop] at this; simp at this; omega
  have := decF_le _ hne
  rw [List.length_drop] at this; omega
theorem valid_at {s : List UInt8} {k : Nat} (hk : k < s.length) : validF (s.drop k) = (decide (0 < (decF (s.drop k)).2) && validF (s.drop (k + (decF (s.drop k)).2))) := by
  rw [validF_step (by intro e; have := congrArg List.length e; rw [List.length_drop] at this; simp at this; omega), List.drop_drop]
theorem c25 (s : List UInt8) (hs : s.length ≤ 9000000) : AFn Tryz.prog Γ 25 [.c (.d (.str s))] [.d (.bool (validF s))] := by
  refine AFn.vc [] Tryz.func25 rfl Tryz.mixed (by kernel_rfl) Tryz.ntmps25 Tryz.results25 (by simp) ?_
  push_cast
  refine LoopV.of0 Tryz.mixed [0] (fun k : Nat => [(3, .c (.d (.int .i64 k)))]) (fun k => k ≤ s.length ∧ validF (s.drop k) = validF s) (fun k => s.length - k) 0 ⟨Nat.zero_le _, by simp⟩ ?_ (by push_cast)
  rintro k ⟨hk, hv⟩
  push_cast
  refine ⟨fun h => ?_, fun h => ?_⟩
  · have hk' : k < s.length := by omega
    refine CallL.q (c72 s k hk' hs) ?_
    push_cast
    have hv2 := valid_at hk'
    have hle := dec_at hk'
    rw [hv] at hv2
    refine ⟨fun e => ?_, fun e => ⟨⟨by omega, by omega⟩, k + (decF (s.drop k)).2, ⟨⟨hle, ?_⟩, by omega⟩, by omega⟩⟩
    · rw [hv2, decide_eq_false (by omega)]; rfl
    · rw [hv2, decide_eq_true (by omega), Bool.true_and]
  · rw [← hv, List.drop_eq_nil_of_le (by omega)]; rfl
theorem c134 (s : List UInt8) (hs : s.length ≤ 9000000) : AFn Tryz.prog Γ 134 [.c (.d (.str s))] [.d (.str (cleanF s))] := by
  refine AFn.vc [] Tryz.func134 rfl Tryz.mixed (by kernel_rfl) Tryz.ntmps134 Tryz.results134 (by simp) ?_
  push_cast
  refine LoopV.of0 Tryz.mixed [0] (fun q : Nat × (List UInt8 × Bool) => [(3, .c (.d (.str q.2.1))), (4, .c (.d (.bool q.2.2))), (5, .c (.d (.int .i64 q.1)))]) (fun q => q.1 ≤ s.length ∧ cleanG (s.length - q.1) (s.drop q.1) q.2 = cleanF s ∧ q.2.1.length ≤ 2 * q.1) (fun q => s.length - q.1) (0, [], false) ⟨Nat.zero_le _, by simp [cleanF], by simp⟩ ?_ (by push_cast)
  rintro ⟨k, out, gap⟩ ⟨hk, hv, hl⟩
  have hk : k ≤ s.length := hk
  have hl : out.length ≤ 2 * k := hl
  have hv : cleanG (s.length - k) (s.drop k) (out, gap) = cleanF s := hv
  push_cast
  refine ⟨fun h => ?_, fun h => ?_⟩
  · have hk' : k < s.length := by omega
    refine CallL.q (c72 s k hk' (by omega)) ?_
    push_cast
    refine CallL.q (c194 s k hk' (by omega)) ?_
    push_cast
    refine CallL.q (c195 (decF (s.drop k)).1) ?_
    push_cast
    have hst := clean_at hk' (out, gap)
    have hle := dec_at hk'
    rw [hv] at hst
    have hn1 : 1 ≤ max (decF (s.drop k)).2 1 := by omega
    have hn2 : k + max (decF (s.drop k)).2 1 ≤ s.length := by omega
    generalize hn : max (decF (s.drop k)).2 1 = n at *
    generalize hcc : (decF (s.drop k)).1 = c at *
    have hzn : ((k : Int) + (n : Int)).toNat - k = n := by omega
    have fin : ∀ (o : List UInt8) (g : Bool), cleanStep (out, gap) c ((s.drop k).take n) = (o, g) → o.length ≤ 2 * (k + n) → ∃ s' : Nat × (List UInt8 × Bool), ((s'.1 ≤ s.length ∧ cleanG (s.length - s'.1) (s.drop s'.1) s'.2 = cleanF s ∧ s'.2.1.length ≤ 2 * s'.1) ∧ s.length - s'.1 < s.length - k) ∧ s'.2.1 = o ∧ s'.2.2 = g ∧ (s'.1 : Int) = (k : Int) + n := fun o g e hlo =>
      ⟨(k + n, o, g), ⟨⟨hn2, by rw [e] at hst; exact hst.symm, hlo⟩, by show s.length - (k + n) < _; omega⟩, rfl, rfl, by show ((k + n : Nat) : Int) = _; omega⟩
    have ht : ((s.drop k).take n).length ≤ n := by rw [List.length_take]; omega
    rw [hzn]
    refine ⟨fun b => ⟨⟨by omega, by omega⟩, fin out true (by unfold cleanStep; rw [if_pos b]) (by omega)⟩, fun b => ?_⟩
    have hcs : cleanStep (out, gap) c ((s.drop k).take n) = ((if gap = true ∧ out ≠ [] then out ++ [32] else out) ++ (s.drop k).take n, false) := by unfold cleanStep; rw [if_neg (by simp [b])]
    have hlen : ∀ o : List UInt8, (o ++ (s.drop k).take n).length ≤ o.length + n := fun o => by rw [List.length_append]; omega
    have c1 : (-9223372036854775808 ≤ (k : Int) + n ∧ (k : Int) + n ≤ 9223372036854775807) := ⟨by omega, by omega⟩
    have c2 : k ≤ ((k : Int) + n).toNat ∧ ((k : Int) + n).toNat ≤ s.length := ⟨by omega, by omega⟩
    refine ⟨fun g => ⟨fun o => ⟨by omega, c1, by omega, c2, by omega, c1, fin _ false (by rw [hcs, if_pos ⟨g, o⟩]) ?_⟩, fun o => ⟨c1, by omega, c2, by omega, c1, fin _ false (by rw [hcs, if_neg (by simp [o])]) ?_⟩⟩, fun g => ⟨c1, by omega, c2, by omega, c1, fin _ false (by rw [hcs, if_neg (by simp [g])]) ?_⟩⟩
    · have := hlen (out ++ [32])
      have h9 : (out ++ [32]).length = out.length + 1 := by simp
      omega
    · have := hlen out; omega
    · have := hlen out; omega
  · rw [← hv, List.drop_eq_nil_of_le (by omega)]
    cases s.length - k <;> rfl
end Go.Proofs
