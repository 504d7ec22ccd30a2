/- Part of a proof about this program; no condition of its own. -/
import Derived.Test.YtanbfhnmklhjiaaGreatDoorZWh
set_option linter.all false
/- Years and decades of the program. No condition. -/
namespace Go.Fc
def Rec.cd (r : Rec) : Prop := ∀ f ∈ r.fields, ∀ s ∈ f.subs, 0 ≤ s.code ∧ s.code ≤ 255
end Go.Fc
namespace Go.Proofs
open Go Go.Ax Go.Tx Go.Lib Go.Shelf Go.RowKit Go.Fc
variable {Γ : List (Nat × List D)}
theorem c216 (r : Rec) (hs : r.sm) (hf : r.fields.length ≤ 2000) (hu : ∀ f ∈ r.fields, f.subs.length ≤ 2000) (hc : r.cd) : AFn Tryz.prog Γ 216 [.agg (r.ds.map C.d)] [.d (.int .i64 (yearFs r.fields))] := by
  generalize hR : yearFs r.fields = R
  obtain ⟨id, ver, kind, lang, fields⟩ := r
  simp only [Fc.Rec.cd] at hf hu hR hc
  refine AFn.vc [] Tryz.func216 rfl Tryz.mixed (by kernel_rfl) Tryz.ntmps216 Tryz.results216 (by simp) ?_
  push_cast
  refine LoopV.cntH Tryz.mixed [9, 10] fields.length (fun k => [(11, .c (.d (.int .i64 k)))]) (fun _ => [.box 64 [.d (.int .i64 id), .d (.int .i64 ver), .d (.int .i64 kind), .d (.str lang), .d (.lst 4 (fields.map Fld.ds))]]) (fun k => yearFs (fields.drop k) = R) (by simpa using hR) ?_ (by push_cast)
  intro k hk hinv
  push_cast
  have hst : ∀ h : k < fields.length, _ := fun h => yearFs_step h
  refine ⟨fun h => ?_, fun h => by rw [yearFs_end (by omega)] at hinv; exact hinv⟩
  have hlt : k < fields.length := by omega
  have hst := hst hlt
  rw [hinv] at hst
  have hno : isYT fields[k].tag = false → yearFs (fields.drop (k + 1)) = R := fun h => by rw [h, if_neg (by simp)] at hst; exact hst.symm
  refine ⟨hlt, fun e1 => ⟨fun e2 => ⟨by omega, hlt, hno (by unfold isYT; simp [e1, e2])⟩, fun e2 => ?_⟩, fun e1 => ?_⟩
  all_goals
    have hy : isYT fields[k].tag = true := by unfold isYT; simp [*]
    clear hno
    have hu1 := hu _ (List.getElem_mem hlt)
    have hs1 : ∀ s ∈ fields[k].subs, s.val.length ≤ 2000000 := hs _ (List.getElem_mem hlt)
    refine CallL.q (c172 fields[k] [99] (by omega) (hc _ (List.getElem_mem hlt))) ?_
    push_cast
    have hlen := allS_len fields[k].subs [99]
    have hmem : ∀ v ∈ allS fields[k].subs [99], v.length ≤ 2000000 := fun v hv => by
      obtain ⟨s, h1, rfl⟩ := allS_mem hv
      exact hs1 s h1
    generalize allS fields[k].subs [99] = vs at *
    refine LoopV.cntH Tryz.mixed [9, 10, 11, 24, 25] vs.length (fun j => [(26, .c (.d (.int .i64 j)))]) (fun _ => [.box 64 [.d (.int .i64 id), .d (.int .i64 ver), .d (.int .i64 kind), .d (.str lang), .d (.lst 4 (fields.map Fld.ds))]]) (fun j => yearSs (vs.drop j) = yearSs vs) (by simp) ?_ (by push_cast)
    intro j hj hjv
    push_cast
    refine ⟨fun h5 => ?_, fun h5 => ?_⟩
    · have hjl : j < vs.length := by omega
      rw [yearSs_step hjl] at hjv
      refine ⟨hjl, ?_⟩
      refine CallL.q (c261 vs[j] (hmem _ (List.getElem_mem hjl))) ?_
      push_cast
      have hyb := yearS_bd vs[j]
      refine ⟨fun e => ?_, fun e => ⟨by omega, hjl, by rw [if_neg (by omega)] at hjv; exact hjv⟩⟩
      rw [if_pos (by omega)] at hjv
      rw [if_pos ⟨hy, by rw [← hjv]; omega⟩, ← hjv] at hst
      exact hst.symm
    · rw [yearSs_end (by omega)] at hjv
      rw [if_neg (by rw [← hjv]; simp)] at hst
      exact ⟨by omega, hlt, hst.symm⟩
theorem c154 (hΓ : (4, powD) ∈ Γ) (r : Rec) (hs : r.sm) (hf : r.fields.length ≤ 2000) (hu : ∀ f ∈ r.fields, f.subs.length ≤ 2000) (hc : r.cd) : AFn Tryz.prog Γ 154 [.agg (r.ds.map C.d)] [.d (.str (decadeS r))] := by
  have hb := yearFs_bd r.fields
  refine AFn.vc [] Tryz.func154 rfl Tryz.mixed (by kernel_rfl) Tryz.ntmps154 Tryz.results154 (by simp) ?_
  push_cast
  refine CallL.q (c216 r hs hf hu hc) ?_
  push_cast
  unfold decadeS
  generalize yearFs r.fields = y at *
  refine ⟨fun e => by rw [if_pos e]; rfl, fun e => ?_⟩
  rw [if_neg e]
  refine ⟨by omega, by omega, ?_⟩
  refine CallL.q (c121 hΓ (y / 10 * 10) (by omega) (by omega)) ?_
  push_cast
  unfold itoa
  rw [if_neg (by omega)]
  have := dec_len (y / 10 * 10).toNat
  omega
end Go.Proofs
