/- Walks of the chapter on formats, first part. -/
import Derived.Test.YtimehiamdikinaaFT
import Derived.Test.YtimehiamdikinaaFDa
import Derived.Test.YtimehiamdikinaaAxZ
set_option linter.all false
namespace Go.Proofs
open Go Go.Ax Go.Fm
set_option maxRecDepth 100000
variable {Γ : List (Nat × List D)}
theorem c26 : AFn Try.prog Γ 26 [] [.d (.lst 7 (three.map Fmt.ds))] := by
  have h : AFn Try.prog Γ 26 [] [.d (.lst 7 [[.int .i64 1, .int .i64 1990, .int .i64 2000, .int .i64 20, .str [111, 108, 100], .str [65, 66], .lst 1 [[.int .i64 2], [.int .i64 3]]],
      [.int .i64 2, .int .i64 1995, .int .i64 0, .int .i64 10, .str [109, 105, 100], .str [65, 66, 67], .lst 1 [[.int .i64 3]]],
      [.int .i64 3, .int .i64 2010, .int .i64 0, .int .i64 5, .str [110, 101, 119], .str [88], .raw (.slice none 0 0)]])] := by
    refine AFn.vc [] Try.func26 rfl Try.mixed (by kernel_rfl) Try.ntmps26 Try.results26 (by simp) ?_
    push_cast
  refine h.nl (Nl.rows ?_)
  repeat (first | exact All2.nil | exact Nl.refl _ | exact Nl.nil _ | refine All2.cons ?_ ?_)
theorem c41 (n low high : Int) : AFn Try.prog Γ 41 [.c (.d (.int .i64 n)), .c (.d (.int .i64 low)), .c (.d (.int .i64 high))] [.d (.bool (inB n low high))] := by
  refine AFn.vc [] Try.func41 rfl Try.mixed (by kernel_rfl) Try.ntmps41 Try.results41 (by simp) ?_
  push_cast
  refine ⟨fun h => by simp [inB, h], fun h => by simp [inB]; omega⟩
theorem c42 (s : List UInt8) (hl : s.length ≤ 1000000) : AFn Try.prog Γ 42 [.c (.d (.str s))] [.d (.bool (nameB s))] := by
  refine AFn.vc [] Try.func42 rfl Try.mixed (by kernel_rfl) Try.ntmps42 Try.results42 (by simp) ?_
  push_cast
  refine ⟨by omega, ?_⟩
  refine LoopV.cnt Try.mixed [0, 6, 7] s.length (fun k => [(8, .c (.d (.int .i64 k)))]) (fun k => s.all okc = (s.drop k).all okc) (by simp) ?_ (by push_cast)
  intro k hk hinv
  push_cast
  refine ⟨fun h => ?_, fun h => ?_⟩
  · have hk' : k < s.length := by omega
    rw [all_drop okc hk'] at hinv
    have hb : okc s[k] = true ∨ okc s[k] = false := by cases okc s[k] <;> simp
    have hd : okc s[k] = true ↔ (97 ≤ s[k].toNat ∧ s[k].toNat ≤ 122) ∨ (48 ≤ s[k].toNat ∧ s[k].toNat ≤ 57) ∨ s[k].toNat = 45 := by simp [okc]; omega
    have k1 : okc s[k] = true → s.all okc = (List.drop (k + 1) s).all okc := fun a => by rw [hinv, a]; rfl
    have k2 : okc s[k] = false → false = nameB s := fun a => by unfold nameB; rw [hinv, a]; rfl
    have k3 : ¬ ((97 ≤ s[k].toNat ∧ s[k].toNat ≤ 122) ∨ (48 ≤ s[k].toNat ∧ s[k].toNat ≤ 57) ∨ s[k].toNat = 45) → okc s[k] = false := fun a => by
      cases e : okc s[k]
      · rfl
      · exact absurd (hd.1 e) a
    repeat' (first | apply And.intro | intro _ | refine Exists.intro (by omega) ?_)
    all_goals first | omega | (exact k1 (hd.2 (by omega))) | (exact k2 (k3 (by omega)))
  · refine CallL.q (c41 s.length 1 20) ?_
    push_cast
    unfold nameB
    rw [hinv, drop_end (by omega)]; rfl
theorem c46 (s p : List UInt8) : AFn Try.prog Γ 46 [.c (.d (.str s)), .c (.d (.str p))] [.d (.bool (preB s p))] := by
  refine AFn.vc [] Try.func46 rfl Try.mixed (by kernel_rfl) Try.ntmps46 Try.results46 (by simp) ?_
  push_cast
  refine ⟨fun h => ⟨⟨by omega, by omega⟩, ?_⟩, fun h => ?_⟩
  · unfold preB; rw [decide_eq_true (by omega : p.length ≤ s.length)]; rfl
  · unfold preB; rw [decide_eq_false (by omega : ¬ p.length ≤ s.length)]; rfl
theorem c18 (f : Fmt) (year : Int) (h1 : 0 ≤ f.until_) (h2 : 0 ≤ f.base) (h3 : f.base ≤ 1000) (h4 : f.until_ ≤ 5000) (h5 : -9223372036854775808 ≤ year) (h6 : year ≤ 9223372036854775807) : AFn Try.prog Γ 18 [.agg (f.ds.map C.d), .c (.d (.int .i64 year))] [.d (.int .i64 (riskF f year))] := by
  refine AFn.vc [] Try.func18 rfl Try.mixed (by kernel_rfl) Try.ntmps18 Try.results18 (by simp) ?_
  push_cast
  have hi : imin (year - f.until_) 10 ≤ 10 := by unfold imin; split <;> omega
  have hi2 : f.until_ < year → 0 ≤ imin (year - f.until_) 10 := fun h => by unfold imin; split <;> omega
  unfold riskF
  refine ⟨fun h => by rw [if_pos h], fun h => ?_⟩
  rw [if_neg (by omega)]
  refine ⟨fun a => ⟨fun b => by rw [if_pos (.inr b)], fun b => ?_⟩, fun a => by rw [if_pos (.inl a)]⟩
  have := hi2 b
  refine ⟨⟨by omega, by omega⟩, ⟨by omega, by omega⟩, ⟨by omega, by omega⟩, ?_⟩
  rw [if_neg (by omega)]
theorem c44 (f : Fmt) (id : Int) : AFn Try.prog Γ 44 [.agg (f.ds.map C.d), .c (.ptr [.int .i64 id])] [.d (.bool (decide (f.id = id)))] := by
  refine AFn.vc [] Try.func44 rfl Try.mixed (by kernel_rfl) Try.ntmps44 Try.results44 (by simp) ?_
  push_cast
theorem c29 (g f : Fmt) : AFn Try.prog Γ 29 [.agg (g.ds.map C.d), .c (.ptr f.ds)] [.d (.bool (decide (g.name = f.name) || decide (g.magic = f.magic)))] := by
  refine AFn.vc [] Try.func29 rfl Try.mixed (by kernel_rfl) Try.ntmps29 Try.results29 (by simp) ?_
  push_cast
  refine ⟨fun h => by simp [h], fun h => by simp [h]⟩
theorem c40 (s p : List UInt8) : AFn Try.prog Γ 40 [.c (.d (.str s)), .c (.d (.str p))] [.d (.bool (preB s p))] := by
  refine AFn.vc [] Try.func40 rfl Try.mixed (by kernel_rfl) Try.ntmps40 Try.results40 (by simp) ?_
  push_cast
  refine CallL.q (c46 s p) ?_
  push_cast
theorem c39 (s p : List UInt8) : AFn Try.prog Γ 39 [.c (.d (.str s)), .c (.d (.str p))] [.d (.bool (preB s p))] := by
  refine AFn.vc [] Try.func39 rfl Try.mixed (by kernel_rfl) Try.ntmps39 Try.results39 (by simp) ?_
  push_cast
  refine ⟨fun h => ⟨⟨by omega, by omega⟩, ?_⟩, fun h => ?_⟩
  · unfold preB; rw [decide_eq_true (by omega : p.length ≤ s.length)]; rfl
  · unfold preB; rw [decide_eq_false (by omega : ¬ p.length ≤ s.length)]; rfl
theorem c45 (s p : List UInt8) : AFn Try.prog Γ 45 [.c (.d (.str s)), .c (.d (.str p))] [.d (.str (if preB s p = true then s.drop p.length else s)), .d (.bool (preB s p))] := by
  refine AFn.vc [] Try.func45 rfl Try.mixed (by kernel_rfl) Try.ntmps45 Try.results45 (by simp) ?_
  push_cast
  refine CallL.q (c46 s p) ?_
  push_cast
  refine ⟨fun h => by simp [h], fun h => ?_⟩
  have hp : p.length ≤ s.length := by
    unfold preB at h
    exact of_decide_eq_true (Bool.and_eq_true_iff.1 h).1
  exact ⟨⟨hp, Nat.le_refl _⟩, by rw [if_pos h], h.symm⟩
theorem c38 (s p : List UInt8) : AFn Try.prog Γ 38 [.c (.d (.str s)), .c (.d (.str p))] [.d (.str (if preB s p = true then s.drop p.length else s)), .d (.bool (preB s p))] := by
  refine AFn.vc [] Try.func38 rfl Try.mixed (by kernel_rfl) Try.ntmps38 Try.results38 (by simp) ?_
  push_cast
  refine CallL.q (c45 s p) ?_
  push_cast
theorem c16 (f t : Fmt) (s : List UInt8) (ht : t.magic.length ≤ 1000000) (hs : s.length ≤ 1000000) : AFn Try.prog Γ 16 [.agg (f.ds.map C.d), .agg (t.ds.map C.d), .c (.d (.str s))] [.d (.str (convF f t s)), .d (.int .i64 (convE f s))] := by
  refine AFn.vc [] Try.func16 rfl Try.mixed (by kernel_rfl) Try.ntmps16 Try.results16 (by simp) ?_
  push_cast
  refine CallL.q (c38 s f.magic) ?_
  push_cast
  unfold convF convE
  refine ⟨fun h => by simp [h], fun h => ?_⟩
  rw [if_pos h]
  refine ⟨by rw [List.length_drop]; omega, by rw [if_pos h], by rw [if_pos h]⟩
theorem c17 (f t : Fmt) (s : List UInt8) (ht : t.magic.length ≤ 1000000) (hs : s.length ≤ 1000000) : AFn Try.prog Γ 17 [.agg (f.ds.map C.d), .agg (t.ds.map C.d), .c (.d (.str s))] [.d (.str (convF f t s)), .d (.int .i64 (convE f s))] := by
  refine AFn.vc [] Try.func17 rfl Try.mixed (by kernel_rfl) Try.ntmps17 Try.results17 (by simp) ?_
  push_cast
  refine CallL.q (c39 s f.magic) ?_
  push_cast
  unfold convF convE
  refine ⟨fun h => by simp [h], fun h => ?_⟩
  have hp : f.magic.length ≤ s.length := by
    unfold preB at h
    exact of_decide_eq_true (Bool.and_eq_true_iff.1 h).1
  rw [if_pos h]
  refine ⟨⟨hp, Nat.le_refl _⟩, by omega, rfl, by rw [if_pos h]⟩
theorem c24 (f : Fmt) (year : Int) (h1 : 0 ≤ f.until_) (h2 : 0 ≤ f.base) (h3 : f.base ≤ 1000) (h4 : f.until_ ≤ 5000) (h5 : -9223372036854775808 ≤ year) (h6 : year ≤ 9223372036854775807) : AFn Try.prog Γ 24 [.agg (f.ds.map C.d), .c (.d (.int .i64 year))] [.d (.int .i64 (riskF f year))] := by
  refine AFn.vc [] Try.func24 rfl Try.mixed (by kernel_rfl) Try.ntmps24 Try.results24 (by simp) ?_
  push_cast
  unfold riskF
  refine ⟨fun h => by rw [if_pos h], fun h => ?_⟩
  rw [if_neg (by omega)]
  refine ⟨fun a => ⟨fun b => by rw [if_pos (.inr b)], fun b => ?_⟩, fun a => by rw [if_pos (.inl a)]⟩
  rw [if_neg (by omega)]
  refine ⟨⟨by omega, by omega⟩, fun c => ?_, fun c => ⟨⟨by omega, by omega⟩, ⟨by omega, by omega⟩, ⟨by omega, by omega⟩, ?_⟩⟩
  · have e : imin (year - f.until_) 10 = 10 := by unfold imin; rw [if_pos (by omega)]
    rw [e]; unfold imin; split <;> omega
  · have e : imin (year - f.until_) 10 = year - f.until_ := by unfold imin; split <;> omega
    rw [e]
end Go.Proofs
