/- Part of a proof about this program; no condition of its own. -/
import Derived.Test.YtanbfhnmklhjiaaDoorGwC
import Derived.Test.YtanbfhnmklhjiaaDoorGfA
set_option linter.all false
/- Browse lists by the reference; sizes of records; equality of browse lists. No condition. -/
namespace Go.Fc
open Go Go.Ax Go.Or Go.Tx
def smallF (f : Fld) : Bool := decide (f.subs.length ≤ 20) && f.subs.all fun s => decide (s.val.length ≤ 300)
def smallR (r : Rec) : Bool := decide (r.fields.length ≤ 70) && r.fields.all smallF
def smallRs (l : List Rec) (n : Int) : Bool := decide ((l.length : Int) ≤ n) && l.all smallR
theorem all_step {α : Type} {p : α → Bool} {l : List α} {k : Nat} (h : k < l.length) : (l.drop k).all p = (p l[k] && (l.drop (k + 1)).all p) := by rw [drop_cons h]; rfl
theorem all_end {α : Type} {p : α → Bool} {l : List α} {k : Nat} (h : ¬ k < l.length) : (l.drop k).all p = true := by rw [List.drop_eq_nil_of_le (by omega)]; rfl
theorem any_step {α : Type} {p : α → Bool} {l : List α} {k : Nat} (h : k < l.length) : (l.drop k).any p = (p l[k] || (l.drop (k + 1)).any p) := by rw [drop_cons h]; rfl
theorem any_end {α : Type} {p : α → Bool} {l : List α} {k : Nat} (h : ¬ k < l.length) : (l.drop k).any p = false := by rw [List.drop_eq_nil_of_le (by omega)]; rfl
theorem cmpP_pos {lang : Str} {x y : Pr} : 0 < cmpP lang x y ↔ (x ≠ y ∧ ltP lang y x = true) := by
  have h0 := cmpP_zero lang x y
  have h := sto_P lang
  constructor
  · intro hp
    have hne : x ≠ y := fun e => by rw [h0.2 e] at hp; omega
    refine ⟨hne, ?_⟩
    cases e : ltP lang y x with
    | true => rfl
    | false =>
      have e2 : ltP lang x y = false := by unfold ltP; exact decide_eq_false (by omega)
      exact absurd (h.tri x y e2 e) hne
  · rintro ⟨hne, hl⟩
    have e := h.asym hl
    unfold ltP at e
    have e := of_decide_eq_false e
    have : cmpP lang x y ≠ 0 := fun q => hne (h0.1 q)
    omega
end Go.Fc
namespace Go.Proofs
open Go Go.Ax Go.Tx Go.Lib Go.RowKit Go.Fc
set_option maxRecDepth 100000
set_option maxHeartbeats 0
variable {Γ : List (Nat × List D)}
theorem br_ext {x y : Br} : x = y ↔ (x.hd = y.hd ∧ x.ref = y.ref ∧ x.cnt = y.cnt) := by
  constructor
  · intro e; rw [e]; exact ⟨rfl, rfl, rfl⟩
  · intro e; cases x; cases y; simp at e ⊢; exact e
theorem c7 (a b : List Br) (hl : a.length ≤ 2000000) : AFn Tryd.prog Γ 7 [.c (.bor 3 (a.map Br.ds)), .c (.bor 3 (b.map Br.ds))] [.d (.bool (decide (a = b)))] := by
  refine AFn.vc [] Tryd.func7 rfl Tryd.mixed (by kernel_rfl) Tryd.ntmps7 Tryd.results7 (by simp) ?_
  push_cast
  refine ⟨fun h => (decide_eq_false fun e => h (by rw [e])).symm, fun h => ?_⟩
  have hlen : a.length = b.length := by omega
  refine LoopV.cnt Tryd.mixed [0, 1] a.length (fun k => [(5, .c (.d (.int .i64 k)))]) (fun k => a = b ↔ a.drop k = b.drop k) (by simp) ?_
  intro k hk hinv
  push_cast
  refine ⟨fun h => ?_, fun h => ?_⟩
  · obtain ⟨hlt, hlt2⟩ : ∃ hlt : k < a.length, k < b.length := ⟨by omega, by omega⟩
    rw [Fc.eq_step hlt hlt2] at hinv
    have he := br_ext (x := a[k]) (y := b[k])
    refine ⟨hlt, hlt2, fun e => (decide_eq_false fun f => ?_).symm, fun e => ⟨by omega, hlt, ?_⟩⟩
    · have := he.1 (hinv.1 f).1
      simp [this] at e
    · rw [hinv, he]; simp [e]
  · exact (decide_eq_true (hinv.2 (Fc.eq_end (by omega) hlen))).symm
end Go.Proofs
