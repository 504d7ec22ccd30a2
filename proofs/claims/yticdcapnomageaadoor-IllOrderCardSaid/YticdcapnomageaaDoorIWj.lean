/- Part of a proof about this program; no condition of its own. -/
import Derived.Test.YticdcapnomageaaDoorIWh
import Derived.Test.YticdcapnomageaaDoorGxD
set_option linter.all false
/- Walks of the chapters on loans between libraries, tenth part: requests. -/
namespace Go.Proofs
open Go Go.Ax Go.Tx Go.Il
set_option maxRecDepth 100000
variable {Γ : List (Nat × List D)}
theorem c74 (l : List Msg) (hl : l.length ≤ 1000000) : AFn Tryd.prog Γ 74 [.c (.bor 8 (l.map Msg.ds))] [.fresh 28 8 (l.map Msg.ds)] := by
  refine AFn.vc [] Tryd.func74 rfl Tryd.mixed (by kernel_rfl) Tryd.ntmps74 Tryd.results74 (by simp) ?_
  push_cast
  exact ⟨fun _ => ⟨by omega, by omega⟩, fun h b => ⟨fun _ => h, fun _ => ⟨by omega, by omega⟩⟩⟩
theorem c97 (x : Msg) (q : Int) (h : inK .i64 (x.seq - q)) : AFn Tryd.prog Γ 97 [.agg (x.ds.map C.d), .c (.d (.int .i64 q))] [.d (.int .i64 (x.seq - q))] := by
  refine AFn.vc [] Tryd.func97 rfl Tryd.mixed (by kernel_rfl) Tryd.ntmps97 Tryd.results97 (by simp) ?_
  push_cast
  exact ⟨h.1, h.2⟩
def cmpS : List AV → List RV → Prop := fun a r => ∃ (x : Msg) (q : Int), inK .i64 (x.seq - q) ∧ a = [.agg (x.ds.map C.d), .c (.d (.int .i64 q))] ∧ r = [.d (.int .i64 (x.seq - q))]
def lowN (l : List Msg) (q : Int) : Nat := (l.takeWhile fun m => decide (m.seq < q)).length
def atN (l : List Msg) (q : Int) : Bool := match l[lowN l q]? with | some m => decide (m.seq = q) | none => false
theorem lowN_le (q : Int) : ∀ l : List Msg, lowN l q ≤ l.length
  | [] => Nat.le_refl _
  | m :: r => by
    have := lowN_le q r
    unfold lowN at this ⊢
    rw [List.takeWhile_cons]
    split
    · simp; omega
    · simp
theorem lowN_eq (q : Int) : ∀ (l : List Msg) (i : Nat) (hi : i ≤ l.length), (∀ k (h : k < l.length), k < i → l[k].seq < q) → (∀ k (h : k < l.length), i ≤ k → q ≤ l[k].seq) → lowN l q = i
  | [], i, hi, _, _ => by simp at hi; subst hi; rfl
  | m :: r, 0, _, _, h2 => by
    have := h2 0 (by simp) (Nat.le_refl _)
    unfold lowN
    rw [List.takeWhile_cons, if_neg (by simpa using this)]; rfl
  | m :: r, i + 1, hi, h1, h2 => by
    have h0 := h1 0 (by simp) (by omega)
    have ih := lowN_eq q r i (by simpa using hi) (fun k h hk => h1 (k + 1) (by simpa using h) (by omega)) (fun k h hk => h2 (k + 1) (by simpa using h) (by omega))
    unfold lowN at ih ⊢
    rw [List.takeWhile_cons, if_pos (by simpa using h0), List.length_cons, ih]
def AscS (l : List Msg) : Prop := ∀ i j (hi : i < l.length) (hj : j < l.length), i < j → l[i].seq < l[j].seq
theorem c96 (l : List Msg) (q : Int) (hl : l.length ≤ 1000000) (hs : AscS l) (hq : ∀ m ∈ l, inK .i64 (m.seq - q)) :
    AFn Tryd.prog Γ 96 [.c (.bor 8 (l.map Msg.ds)), .c (.d (.int .i64 q)), .c (.fn (FnSpec Tryd.prog Γ cmpS))] [.d (.int .i64 (lowN l q)), .d (.bool (atN l q))] := by
  refine AFn.vc [] Tryd.func96 rfl Tryd.mixed (by kernel_rfl) Tryd.ntmps96 Tryd.results96 (by simp) ?_
  push_cast
  refine LoopV.of0 Tryd.mixed [0, 1, 2, 8] (fun s : Nat × Nat => [(9, .c (.d (.int .i64 s.1))), (10, .c (.d (.int .i64 s.2)))]) (fun s => s.1 ≤ s.2 ∧ s.2 ≤ l.length ∧ (∀ k (h : k < l.length), k < s.1 → l[k].seq < q) ∧ ∀ k (h : k < l.length), s.2 ≤ k → q ≤ l[k].seq) (fun s => s.2 - s.1) (0, l.length) ⟨by omega, Nat.le_refl _, fun k h hk => (by omega), fun k h hk => (by omega)⟩ ?_ (by push_cast)
  rintro ⟨i, j⟩ ⟨h1, h2, h3, h4⟩
  push_cast
  simp only at h1 h2 h3 h4
  refine ⟨fun hlt => ?_, fun hge => ?_⟩
  · have hlt' : i < j := by omega
    obtain ⟨h, hh⟩ : ∃ h : Nat, ((i : Int) + (j : Int)) / 2 = h := ⟨(i + j) / 2, by omega⟩
    have hi1 : i ≤ h := by omega
    have hi2 : h < j := by omega
    simp only [hh, Int.toNat_natCast]
    refine ⟨by omega, by omega, by omega, by omega, by omega, CallL.fn _ _ ⟨l[h]'(by omega), q, hq _ (List.getElem_mem _), rfl, rfl⟩ ?_⟩
    push_cast
    refine ⟨fun h5 => ⟨by omega, (h + 1, j), ⟨⟨by simp only; omega, by simp only; omega, fun k hk hk' => ?_, fun k hk hk' => h4 k hk hk'⟩, by simp only; omega⟩, by simp only; omega, rfl⟩, fun h5 => ⟨(i, h), ⟨⟨by simp only; omega, by simp only; omega, fun k hk hk' => h3 k hk hk', fun k hk hk' => ?_⟩, by simp only; omega⟩, rfl, rfl⟩⟩
    · simp only at hk'
      by_cases hkh : k = h
      · subst hkh; omega
      · have := hs k h hk (by omega) (by omega)
        omega
    · simp only at hk'
      by_cases hkh : k = h
      · subst hkh; omega
      · have := hs h k (by omega) hk (by omega)
        omega
  · have hij : i = j := by omega
    subst hij
    have hlow := lowN_eq q l i h2 h3 h4
    refine ⟨fun h5 => ⟨by omega, CallL.fn _ _ ⟨l[i]'(by omega), q, hq _ (List.getElem_mem _), rfl, rfl⟩ ?_⟩, fun h5 => ?_⟩
    · push_cast
      rw [hlow]
      refine ⟨rfl, ?_⟩
      unfold atN
      rw [hlow, List.getElem?_eq_getElem (by omega)]
      have e : (l[i].seq - q = 0) = (l[i].seq = q) := propext (by omega)
      simp only [e]
    · rw [hlow]
      unfold atN
      rw [hlow, List.getElem?_eq_none (by omega)]
      exact ⟨rfl, rfl⟩
end Go.Proofs
