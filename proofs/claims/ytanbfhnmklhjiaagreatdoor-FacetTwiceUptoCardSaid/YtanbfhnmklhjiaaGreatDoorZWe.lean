/- Part of a proof about this program; no condition of its own. -/
import Derived.Test.YtanbfhnmklhjiaaGreatDoorGzF
import Derived.Test.YtanbfhnmklhjiaaGreatDoorFcC
import Derived.Test.YtanbfhnmklhjiaaGreatDoorGxR
set_option linter.all false
/- Walks: values of facets (reference), first part. -/
namespace Go.Proofs
open Go Go.Ax Go.Tx Go.Fc Go.Or
set_option maxRecDepth 100000
set_option maxHeartbeats 0
variable {Γ : List (Nat × List D)}
theorem c101 (l : List Str) (n : Str) (hl : l.length ≤ 2000000) : AFn Tryz.prog Γ 101 [.c (.d (.lst 1 (l.map Fc.sD))), .c (.d (.str n))] [.d (.lst 1 ((putS l n).map Fc.sD))] := by
  by_cases hn : n = []
  · subst hn
    refine AFn.vc [] Tryz.func101 rfl Tryz.mixed (by kernel_rfl) Tryz.ntmps101 Tryz.results101 (by simp) ?_
    push_cast
    rfl
  rw [show putS l n = Or.put ltS l n false from if_neg hn]
  refine AFn.vc [] Tryz.func101 rfl Tryz.mixed (by kernel_rfl) Tryz.ntmps101 Tryz.results101 (by simp) ?_
  push_cast [show (n = []) = False from eq_false hn]
  refine LoopV.nilrow 5 9 1 ?_
  push_cast
  refine LoopV.of Tryz.mixed [0, 1] (S := Nat × List Str × Bool) (fun s => [(5, .c (.own 0 s.2.1.length)), (6, .c (.d (.bool s.2.2))), (7, .c (.d (.int .i64 s.1)))]) (fun s => [.row 9 1 (s.2.1.map Fc.sD) s.2.1.length]) (fun s => s.1 ≤ l.length ∧ s.2.1.length ≤ 2 * s.1 ∧ Or.put ltS l n false = s.2.1 ++ Or.put ltS (l.drop s.1) n s.2.2) (fun s => l.length - s.1) (0, [], false) (by simp) (by push_cast) ?_
  rintro ⟨k, o, d⟩ ⟨hk, ho, hinv⟩
  simp only at hk ho hinv
  push_cast
  refine ⟨fun h => ?_, fun h => ?_⟩
  · obtain ⟨hlt, _⟩ : ∃ hlt : k < l.length, True := ⟨by omega, trivial⟩
    rw [put_step hlt] at hinv
    refine ⟨hlt, fun e => ⟨hlt, by omega, by omega, (k + 1, o ++ [l[k]], true), ⟨⟨by show k + 1 ≤ _; omega, by simp <;> omega, ?_⟩, by show l.length - (k + 1) < _; omega⟩, ⟨by simp, rfl, by push_cast⟩, by simp [Fc.sD], by simp⟩, fun e => ⟨fun f => ⟨hlt, fun g => ⟨by omega, hlt, by omega, by omega, (k + 1, o ++ [n, l[k]], true), ⟨⟨by show k + 1 ≤ _; omega, by simp <;> omega, ?_⟩, by show l.length - (k + 1) < _; omega⟩, ⟨by simp, rfl, by push_cast⟩, by simp [Fc.sD], by simp⟩, fun g => ⟨hlt, by omega, by omega, (k + 1, o ++ [l[k]], d), ⟨⟨by show k + 1 ≤ _; omega, by simp <;> omega, ?_⟩, by show l.length - (k + 1) < _; omega⟩, ⟨by simp, rfl, by push_cast⟩, by simp [Fc.sD], by simp⟩⟩, fun f => ⟨hlt, by omega, by omega, (k + 1, o ++ [l[k]], d), ⟨⟨by show k + 1 ≤ _; omega, by simp <;> omega, ?_⟩, by show l.length - (k + 1) < _; omega⟩, ⟨by simp, rfl, by push_cast⟩, by simp [Fc.sD], by simp⟩⟩⟩
    · rw [hinv, if_neg (by simp [e])]; simp [e]
    · rw [hinv, if_pos ⟨f, e, g⟩]; simp
    · rw [hinv, if_neg (by intro h; exact absurd h.2.2 (by unfold ltS; rw [g]; simp))]; simp [f, e]
    · rw [hinv, if_neg (by simp [f])]; simp [e, f]
  · rw [put_end (by omega)] at hinv
    refine ⟨fun f => ⟨by omega, ?_⟩, fun f => ?_⟩
    · rw [hinv, f]; simp [Fc.sD]
    · rw [hinv, f]; simp [Fc.sD]
def YI (s : Str) (R : Int) (q : Nat × Int × Int) : Prop := q.1 ≤ s.length + 1 ∧ (q.1 ≤ s.length → yrG (s.drop q.1) q.2.1 q.2.2 = R) ∧ (q.1 = s.length + 1 → R = 0) ∧ (0 ≤ q.2.1 ∧ q.2.1 ≤ 9999) ∧ (0 ≤ q.2.2 ∧ q.2.2 ≤ q.1) ∧ (q.2.2 ≤ 3 → q.2.1 < 1000) ∧ (q.2.2 ≤ 2 → q.2.1 < 100) ∧ (q.2.2 ≤ 1 → q.2.1 < 10) ∧ (q.2.2 = 0 → q.2.1 = 0)
theorem c159 (s : Str) (hs : s.length ≤ 2000000) : AFn Tryz.prog Γ 159 [.c (.d (.str s))] [.d (.int .i64 (yearS s))] := by
  generalize hR : yearS s = R
  refine AFn.vc [] Tryz.func159 rfl Tryz.mixed (by kernel_rfl) Tryz.ntmps159 Tryz.results159 (by simp) ?_
  push_cast
  refine LoopV.of0 Tryz.mixed [0] (S := Nat × Int × Int) (fun q => [(3, .c (.d (.int .i64 q.2.1))), (4, .c (.d (.int .i64 q.2.2))), (5, .c (.d (.int .i64 q.1)))]) (YI s R) (fun q => s.length + 1 - q.1) (0, 0, 0) ⟨Nat.zero_le _, fun _ => by simpa [yearS] using hR, by simp, by simp, by simp, by simp, by simp, by simp, by simp⟩ ?_ (by push_cast)
  rintro ⟨k, n, g⟩ ⟨hk, hi, hz, hn, hg, a1, a2, a3, a4⟩
  simp only at hk hi hz hn hg a1 a2 a3 a4
  push_cast
  have fin : ∀ n' g', YI s R (k + 1, n', g') → k ≤ s.length → ∃ s' : Nat × Int × Int, (YI s R s' ∧ s.length + 1 - s'.1 < s.length + 1 - k) ∧ s'.2.1 = n' ∧ s'.2.2 = g' ∧ (s'.1 : Int) = k + 1 := fun n' g' h hk => ⟨(k + 1, n', g'), ⟨h, by show s.length + 1 - (k + 1) < _; omega⟩, rfl, rfl, rfl⟩
  have zz : ((k + 1 ≤ s.length → yrG (s.drop (k + 1)) 0 0 = R) ∧ (k = s.length → R = 0)) → k ≤ s.length → YI s R (k + 1, 0, 0) := fun h h2 => ⟨by show k + 1 ≤ _; omega, h.1, fun e => h.2 (by simp only at e; omega), by simp, by simp; omega, by simp, by simp, by simp, by simp⟩
  refine ⟨fun h1 => ⟨fun h2 => ⟨by omega, fun h3 => ⟨by omega, fun h4 => ?_, fun h4 => ?_⟩, fun h3 => ?_⟩, fun h2 => ?_⟩, fun h1 => (hz (by omega)).symm⟩
  · have hlt : k < s.length := by omega
    have hi := hi (by omega)
    rw [Fc.drop_cons hlt] at hi
    unfold yrG at hi
    rw [if_pos (by unfold digB; simp; omega)] at hi
    refine ⟨by omega, fun h5 => ⟨by omega, hlt, by omega, by omega, by omega, by omega, fin _ _ ⟨by show k + 1 ≤ _; omega, fun _ => by rw [if_pos h5] at hi; exact hi, fun e => by simp only at e; omega, by show 0 ≤ n * 10 + ((s[k].toNat : Int) - 48) ∧ n * 10 + ((s[k].toNat : Int) - 48) ≤ 9999; omega, by show 0 ≤ g + 1 ∧ g + 1 ≤ ((k + 1 : Nat) : Int); omega, by show g + 1 ≤ 3 → n * 10 + _ < (1000 : Int); omega, by show g + 1 ≤ 2 → n * 10 + _ < (100 : Int); omega, by show g + 1 ≤ 1 → n * 10 + _ < (10 : Int); omega, by show g + 1 = 0 → n * 10 + _ = (0 : Int); omega⟩ (by omega)⟩, fun h5 => ⟨by omega, fin _ _ ⟨by show k + 1 ≤ _; omega, fun _ => by rw [if_neg (by omega)] at hi; exact hi, fun e => by simp only at e; omega, hn, by show 0 ≤ g + 1 ∧ g + 1 ≤ ((k + 1 : Nat) : Int); omega, by show g + 1 ≤ 3 → n < (1000 : Int); omega, by show g + 1 ≤ 2 → n < (100 : Int); omega, by show g + 1 ≤ 1 → n < (10 : Int); omega, by show g + 1 = 0 → n = (0 : Int); omega⟩ (by omega)⟩⟩
  · have hlt : k < s.length := by omega
    have hi := hi (by omega)
    rw [Fc.drop_cons hlt] at hi
    unfold yrG at hi
    rw [if_neg (by unfold digB; simp; omega)] at hi
    refine ⟨fun c1 => ⟨fun c2 => ⟨fun c3 => by rw [if_pos ⟨c1, c2, c3⟩] at hi; exact hi, fun c3 => ⟨by omega, fin 0 0 (zz ⟨fun _ => by rw [if_neg (by omega)] at hi; exact hi, fun e => by omega⟩ (by omega)) (by omega)⟩⟩, fun c2 => ⟨by omega, fin 0 0 (zz ⟨fun _ => by rw [if_neg (by omega)] at hi; exact hi, fun e => by omega⟩ (by omega)) (by omega)⟩⟩, fun c1 => ⟨by omega, fin 0 0 (zz ⟨fun _ => by rw [if_neg (by omega)] at hi; exact hi, fun e => by omega⟩ (by omega)) (by omega)⟩⟩
  · have hlt : k < s.length := by omega
    have hi := hi (by omega)
    rw [Fc.drop_cons hlt] at hi
    unfold yrG at hi
    rw [if_neg (by unfold digB; simp; omega)] at hi
    refine ⟨fun c1 => ⟨fun c2 => ⟨fun c3 => by rw [if_pos ⟨c1, c2, c3⟩] at hi; exact hi, fun c3 => ⟨by omega, fin 0 0 (zz ⟨fun _ => by rw [if_neg (by omega)] at hi; exact hi, fun e => by omega⟩ (by omega)) (by omega)⟩⟩, fun c2 => ⟨by omega, fin 0 0 (zz ⟨fun _ => by rw [if_neg (by omega)] at hi; exact hi, fun e => by omega⟩ (by omega)) (by omega)⟩⟩, fun c1 => ⟨by omega, fin 0 0 (zz ⟨fun _ => by rw [if_neg (by omega)] at hi; exact hi, fun e => by omega⟩ (by omega)) (by omega)⟩⟩
  · have hi := hi (by omega)
    rw [List.drop_eq_nil_of_le (by omega)] at hi
    unfold yrG at hi
    refine ⟨fun c1 => ⟨fun c2 => ⟨fun c3 => by rw [if_pos ⟨c1, c2, c3⟩] at hi; exact hi, fun c3 => ⟨by omega, fin 0 0 (zz ⟨fun e => by omega, fun _ => by rw [if_neg (by omega)] at hi; exact hi.symm⟩ (by omega)) (by omega)⟩⟩, fun c2 => ⟨by omega, fin 0 0 (zz ⟨fun e => by omega, fun _ => by rw [if_neg (by omega)] at hi; exact hi.symm⟩ (by omega)) (by omega)⟩⟩, fun c1 => ⟨by omega, fin 0 0 (zz ⟨fun e => by omega, fun _ => by rw [if_neg (by omega)] at hi; exact hi.symm⟩ (by omega)) (by omega)⟩⟩
theorem c102 (r : Rec) (hs : r.sm) (hf : r.fields.length ≤ 2000) (hu : ∀ f ∈ r.fields, f.subs.length ≤ 2000) : AFn Tryz.prog Γ 102 [.agg (r.ds.map C.d)] [.d (.int .i64 (yearFs r.fields))] := by
  generalize hR : yearFs r.fields = R
  obtain ⟨id, ver, kind, lang, fields⟩ := r
  simp only at hf hu hR
  refine AFn.vc [] Tryz.func102 rfl Tryz.mixed (by kernel_rfl) Tryz.ntmps102 Tryz.results102 (by simp) ?_
  push_cast
  refine LoopV.cntH Tryz.mixed [1] fields.length (fun k => [(3, .c (.d (.int .i64 k)))]) (fun _ => [.box 64 [.d (.int .i64 id), .d (.int .i64 ver), .d (.int .i64 kind), .d (.str lang), .d (.lst 4 (fields.map Fld.ds))]]) (fun k => yearFs (fields.drop k) = R) (by simpa using hR) ?_ (by push_cast)
  intro k hk hinv
  push_cast
  have hst : ∀ h : k < fields.length, _ := fun h => yearFs_step h
  refine ⟨fun h => ?_, fun h => by rw [yearFs_end (by omega)] at hinv; exact hinv⟩
  have hlt : k < fields.length := by omega
  have hst := hst hlt
  rw [hinv] at hst
  have hno : isYT fields[k].tag = false → yearFs (fields.drop (k + 1)) = R := fun h => by rw [h, if_neg (by simp)] at hst; exact hst.symm
  refine ⟨hlt, fun e1 => ⟨hlt, fun e2 => ⟨by omega, hlt, hno (by unfold isYT; simp [e1, e2])⟩, fun e2 => ⟨hlt, ?_⟩⟩, fun e1 => ⟨hlt, ?_⟩⟩
  all_goals
    have hy : isYT fields[k].tag = true := by unfold isYT; simp [*]
    clear hno
    have hu1 := hu _ (List.getElem_mem hlt)
    have hs1 : ∀ s ∈ fields[k].subs, s.val.length ≤ 2000000 := hs _ (List.getElem_mem hlt)
    refine CallL.q (c129 fields[k] [99] (by omega) (by simp)) ?_
    push_cast
    have hlen := allS_len fields[k].subs [99]
    have hmem : ∀ v ∈ allS fields[k].subs [99], v.length ≤ 2000000 := fun v hv => by
      obtain ⟨s, h1, rfl⟩ := allS_mem hv
      exact hs1 s h1
    generalize allS fields[k].subs [99] = vs at *
    refine LoopV.cntH Tryz.mixed [1, 3, 4] vs.length (fun j => [(5, .c (.d (.int .i64 j)))]) (fun _ => [.box 64 [.d (.int .i64 id), .d (.int .i64 ver), .d (.int .i64 kind), .d (.str lang), .d (.lst 4 (fields.map Fld.ds))]]) (fun j => yearSs (vs.drop j) = yearSs vs) (by simp) ?_ (by push_cast)
    intro j hj hjv
    push_cast
    refine ⟨fun h5 => ?_, fun h5 => ?_⟩
    · have hjl : j < vs.length := by omega
      rw [yearSs_step hjl] at hjv
      refine ⟨hjl, ?_⟩
      refine CallL.q (c159 vs[j] (hmem _ (List.getElem_mem hjl))) ?_
      push_cast
      refine ⟨fun e => ?_, fun e => ⟨by omega, hjl, by rw [if_neg (by omega)] at hjv; exact hjv⟩⟩
      rw [if_pos e] at hjv
      rw [if_pos ⟨hy, by rw [← hjv]; exact e⟩, ← hjv] at hst
      exact hst.symm
    · rw [yearSs_end (by omega)] at hjv
      rw [if_neg (by rw [← hjv]; simp)] at hst
      exact ⟨by omega, hlt, hst.symm⟩
end Go.Proofs
