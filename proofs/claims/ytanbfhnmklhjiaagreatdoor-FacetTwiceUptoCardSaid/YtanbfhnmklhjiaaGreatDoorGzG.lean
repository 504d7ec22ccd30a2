/- Part of a proof about this program; no condition of its own. -/
import Derived.Test.YtanbfhnmklhjiaaGreatDoorZWh
set_option linter.all false
/- Years and decades of the program. No condition. -/
namespace Go.Fc
def Rec.cd (r : Rec) : Prop := ∀ f ∈ r.fields, ∀ s ∈ f.subs, 0 ≤ s.code ∧ s.code ≤ 255
end Go.Fc
namespace Go.Proofs
open Go Go.Ax Go.Tx Go.Lib Go.Shelf Go.RowKit Go.Fc
variable {Γ : List (Nat × List D)}
theorem c216 (r : Rec) (hs : r.sm) (hf : r.fields.length ≤ 2000) (hu : ∀ f ∈ r.fields, f.subs.length ≤ 2000) (hc : r.cd) : AFn Tryz.prog Γ 216 [.agg (r.ds.map C.d)] [.d (.int .i64 (yearFs r.fields))] := by
  generalize hR : yearFs r.fields = R
  obtain ⟨id, ver, kind, lang, fields⟩ := r
  simp only [Fc.Rec.cd] at hf hu hR hc
  refine AFn.vc [] Tryz.func216 rfl Tryz.mixed (by kernel_rfl) Tryz.ntmps216 Tryz.results216 (by simp) ?_
  push_cast
  refine LoopV.cntH Tryz.mixed [9, 10] fields.length (fun k => [(11, .c (.d (.int .i64 k)))]) (fun _ => [.box 64 [.d (.int .i64 id), .d (.int .i64 ver), .d (.int .i64 kind), .d (.str lang), .d (.lst 4 (fields.map Fld.ds))]]) (fun k => yearFs (fields.drop k) = R) (by simpa using hR) ?_ (by push_cast)
  intro k hk hinv
  push_cast
  have hst : ∀ h : k < fields.length, _ := fun h => yearFs_step h
  refine ⟨fun h => ?_, fun h => by rw [yearFs_end (by omega)] at hinv; exact hinv⟩
  have hlt : k < fields.length := by omega
  have hst := hst hlt
  rw [hinv] at hst
  have hno : isYT fields[k].tag = false → yearFs (fields.drop (k + 1)) = R := fun h => by rw [h, if_neg (by simp)] at hst; exact hst.symm
  refine ⟨hlt, fun e1 => ⟨fun e2 => ⟨by omega, hlt, hno (by unfold isYT; simp [e1, e2])⟩, fun e2 => ?_⟩, fun e1 => ?_⟩
  all_goals
    have hy : isYT fields[k].tag = true := by unfold isYT; simp [*]
    clear hno
    have hu1 := hu _ (List.getElem_mem hlt)
    have hs1 : ∀ s ∈ fields[k].subs, s.val.length ≤ 2000000 := hs _ (List.getElem_mem hlt)
    refine CallL.q (c172 fields[k] [99] (by omega) (hc _ (List.getElem_mem hlt))) ?_
    push_cast
    have hlen := allS_len fields[k].subs [99]
    have hmem : ∀ v ∈ allS fields[k].subs [99], v.length ≤ 2000000 := fun v hv => by
      obtain ⟨s, h1, rfl⟩ := allS_mem hv
      exact hs1 s h1
    generalize allS fields[k].subs [99] = vs at *
    refine LoopV.cntH Tryz.mixed [9, 10, 11, 24, 25] vs.length (fun j => [(26, .c (.d (.int .i64 j)))]) (fun _ => [.box 64 [.d (.int .i64 id), .d (.int .i64 ver), .d (.int .i64 kind), .d (.str lang), .d (.lst 4 (fields.map Fld.ds))]]) (fun j => yearSs (vs.drop j) = yearSs vs) (by simp) ?_ (by push_cast)
    intro j hj hjv
    push_cast
    refine ⟨fun h5 => ?_, fun h5 => ?_⟩
    · have hjl : j < vs.length := by omega
      rw [yearSs_step hjl] at hjv
      refine ⟨hjl, ?_⟩
      refine CallL.q (c261 vs[j] (hmem _ (List.getElem_mem hjl))) ?_
      push_cast
      have hyb := yearS_bd vs[j]
      refine ⟨fun e => ?_, fun e => ⟨by omega, hjl, by rw [if_neg (by omega)] at hjv; exact hjv⟩⟩
      rw [if_pos (by omega)] at hjv
      rw [if_pos ⟨hy, by rw [← hjv]; omega⟩, ← hjv] at hst
      exact hst.symm
    · rw [yearSs_end (by omega)] at hjv
      rw [if_neg (by rw [← hjv]; simp)] at hst
      exact ⟨by omega, hlt, hst.symm⟩
theorem c154 (hΓ : (4, powD) ∈ Γ) (r : Rec) (hs : r.sm) (hf : r.fields.length ≤ 2000) (hu : ∀ f ∈ r.fields, f.subs.length ≤ 2000) (hc : r.cd) : AFn Tryz.prog Γ 154 [.agg (r.ds.map C.d)] [.d (.str (decadeS r))] := by
  have hb := yearFs_bd r.fields
  refine AFn.vc [] Tryz.func154 rfl Tryz.mixed (by kernel_rfl) Tryz.ntmps154 Tryz.results154 (by simp) ?_
  push_cast
  refine CallL.q (c216 r hs hf hu hc) ?_
  push_cast
  unfold decadeS
  generalize yearFs r.fields = y at *
  refine ⟨fun e => by rw [if_pos e]; rfl, fun e => ?_⟩
  rw [if_neg e]
  refine ⟨by omega, by omega, ?_⟩
  refine CallL.q (c121 hΓ (y / 10 * 10) (by omega) (by omega)) ?_
  push_cast
  unfold itoa
  rw [if_neg (by omega)]
  have := dec_len (y / 10 * 10).toNat
  omega
end Go.Proofs

/- The raw values of a facet, of the program. No condition. -/
namespace Go.Proofs
open Go Go.Ax Go.Tx Go.Lib Go.Shelf Go.RowKit Go.Fc
variable {Γ : List (Nat × List D)}
theorem c97_1 (r : Rec) : AFn Tryz.prog Γ 97 [.c (.d (.int .i64 1)), .agg (r.ds.map C.d)] [.fresh 9 1 ((rawV 1 r).map Fc.sD)] := by
  refine AFn.vc [] Tryz.func97 rfl Tryz.mixed (by kernel_rfl) Tryz.ntmps97 Tryz.results97 (by simp) ?_
  push_cast
  rfl
theorem c97_2 (r : Rec) : AFn Tryz.prog Γ 97 [.c (.d (.int .i64 2)), .agg (r.ds.map C.d)] [.fresh 9 1 ((rawV 2 r).map Fc.sD)] := by
  by_cases h : 1 ≤ r.kind ∧ r.kind ≤ 4
  · obtain ⟨id, ver, kind, lang, fields⟩ := r
    simp only at h
    have h4 : kind = 1 ∨ kind = 2 ∨ kind = 3 ∨ kind = 4 := by omega
    rcases h4 with rfl | rfl | rfl | rfl
    all_goals
      refine AFn.vc [] Tryz.func97 rfl Tryz.mixed (by kernel_rfl) Tryz.ntmps97 Tryz.results97 (by simp) ?_
      push_cast
      rfl
  · refine AFn.vc [] Tryz.func97 rfl Tryz.mixed (by kernel_rfl) Tryz.ntmps97 Tryz.results97 (by simp) ?_
    have e : rawV 2 r = [] := by unfold rawV; rw [if_neg (by omega), if_pos rfl, if_neg h]
    rw [e]
    push_cast
    exact fun h1 h2 => absurd ⟨h1, h2⟩ h
theorem c97_3 (hΓ : (4, powD) ∈ Γ) (r : Rec) (hr : r.fit) (hc : r.cd) : AFn Tryz.prog Γ 97 [.c (.d (.int .i64 3)), .agg (r.ds.map C.d)] [.fresh 9 1 ((rawV 3 r).map Fc.sD)] := by
  refine AFn.vc [] Tryz.func97 rfl Tryz.mixed (by kernel_rfl) Tryz.ntmps97 Tryz.results97 (by simp) ?_
  push_cast
  refine CallL.q (c154 hΓ r hr.sm hr.nf hr.ns hc) ?_
  push_cast
  rfl
theorem subj_pre (f : Fld) : hasP [54] f = isSubj f.tag := by
  unfold hasP isSubj Lib.hasPrefix
  cases f.tag with
  | nil => rfl
  | cons x l =>
    show ((54 : UInt8) == x && true) = _
    rw [Bool.and_true]
    apply Bool.eq_iff_iff.2
    simp only [beq_iff_eq, decide_eq_true_eq]
    constructor
    · intro h; subst h; rfl
    · intro h; exact (UInt8.toNat_inj.1 (show x.toNat = (54 : UInt8).toNat from h)).symm
theorem raw4 (r : Rec) : rawV 4 r = (r.fields.filter (hasP [54])).map fun f => (getS f.subs 97).1 := by
  unfold rawV
  rw [if_neg (by omega), if_neg (by omega), if_neg (by omega)]
  induction r.fields with
  | nil => rfl
  | cons f l ih =>
    rw [List.flatMap_cons, ih, List.filter_cons, subj_pre]
    unfold rawFld
    rw [if_pos rfl]
    split <;> simp
theorem map_next {α β : Type} {l : List α} {k : Nat} (g : α → β) (h : k < l.length) : (l.take (k + 1)).map g = (l.take k).map g ++ [g l[k]] := by
  rw [Fc.take_next h, List.map_append]; rfl
theorem c97_4 (r : Rec) (hr : r.fit) : AFn Tryz.prog Γ 97 [.c (.d (.int .i64 4)), .agg (r.ds.map C.d)] [.fresh 9 1 ((rawV 4 r).map Fc.sD)] := by
  rw [raw4]
  refine AFn.vc [] Tryz.func97 rfl Tryz.mixed (by kernel_rfl) Tryz.ntmps97 Tryz.results97 (by simp) ?_
  push_cast
  refine CallL.q (c155 r [54] (by have := hr.nf; omega)) ?_
  push_cast
  have hl : (r.fields.filter (hasP [54])).length ≤ 2000 := Nat.le_trans (List.length_filter_le _ _) hr.nf
  have hs : ∀ f ∈ r.fields.filter (hasP [54]), f.subs.length ≤ 2000 := fun f hf => hr.ns f (List.mem_filter.1 hf).1
  generalize r.fields.filter (hasP [54]) = fs at *
  refine LoopV.nilrow 5 9 1 ?_
  push_cast
  refine LoopV.cntH Tryz.mixed [50, 51] fs.length (fun k => [(5, .c (.own 1 k)), (52, .c (.d (.int .i64 k)))]) (fun k => [.box 64 (r.ds.map C.d), .row 9 1 ((((fs.take k).map fun f => (getS f.subs 97).1)).map Fc.sD) k]) (fun _ => True) trivial ?_ (by push_cast)
  intro k hk _
  push_cast
  refine ⟨fun h => ?_, fun h => by rw [List.take_of_length_le (by omega)]⟩
  have hlt : k < fs.length := by omega
  refine ⟨hlt, ?_⟩
  refine CallL.q (c156 fs[k] 97 (by have := hs _ (List.getElem_mem hlt); omega)) ?_
  push_cast
  have hn := map_next (fun f : Fld => (getS f.subs 97).1) hlt
  exact ⟨by omega, by omega, hlt, by rw [hn]; simp [Fc.sD]⟩
theorem raw5 (r : Rec) : rawV 5 r = (r.fields.filter fun f => isAuth f.tag).map fun f => Lib.join (allS f.subs [97]) [32] := by
  unfold rawV
  rw [if_neg (by omega), if_neg (by omega), if_neg (by omega)]
  induction r.fields with
  | nil => rfl
  | cons f l ih =>
    rw [List.flatMap_cons, ih, List.filter_cons]
    unfold rawFld
    rw [if_neg (by omega), if_pos rfl]
    split <;> simp
theorem auth_mem (t : Str) : decide (t ∈ ([[49, 48, 48], [49, 49, 48], [55, 48, 48], [55, 49, 48]] : List Str)) = isAuth t := by
  unfold isAuth
  rw [← Bool.decide_or, ← Bool.decide_or, ← Bool.decide_or]
  apply decide_eq_decide.2
  simp
theorem c97_5 (r : Rec) (hr : r.fit) (hc : r.cd) : AFn Tryz.prog Γ 97 [.c (.d (.int .i64 5)), .agg (r.ds.map C.d)] [.fresh 9 1 ((rawV 5 r).map Fc.sD)] := by
  rw [raw5]
  have hl := hr.nf
  have hs := hr.ns
  have hj := hr.jl
  unfold Fc.Rec.cd at hc
  obtain ⟨id, ver, kind, lang, fs⟩ := r
  simp only at hl hs hj hc
  refine AFn.vc [] Tryz.func97 rfl Tryz.mixed (by kernel_rfl) Tryz.ntmps97 Tryz.results97 (by simp) ?_
  push_cast
  refine LoopV.nilrow 5 9 1 ?_
  push_cast
  refine LoopV.cntH Tryz.mixed [69, 70] fs.length (fun k => [(5, .c (.own 1 ((fs.take k).filter fun f => isAuth f.tag).length)), (71, .c (.d (.int .i64 k)))]) (fun k => [.box 64 [.d (.int .i64 id), .d (.int .i64 ver), .d (.int .i64 kind), .d (.str lang), .d (.lst 4 (fs.map Fld.ds))], .row 9 1 ((((fs.take k).filter fun f => isAuth f.tag).map fun f => Lib.join (allS f.subs [97]) [32]).map Fc.sD) ((fs.take k).filter fun f => isAuth f.tag).length]) (fun _ => True) trivial ?_ (by push_cast; exact ⟨rfl, rfl, rfl⟩)
  intro k hk _
  push_cast
  refine ⟨fun h => ?_, fun h => by rw [List.take_of_length_le (by omega)]⟩
  have hlt : k < fs.length := by omega
  have hn := filter_next (p := fun f : Fld => isAuth f.tag) hlt
  have hb : ((fs.take k).filter fun f => isAuth f.tag).length ≤ k := Nat.le_trans (List.length_filter_le _ _) (by rw [List.length_take]; omega)
  refine ⟨hlt, ?_⟩
  refine CallL.q (c113 [[49, 48, 48], [49, 49, 48], [55, 48, 48], [55, 49, 48]] fs[k].tag (by simp)) ?_
  push_cast
  have hm := auth_mem fs[k].tag
  refine ⟨fun e => ?_, fun e => ?_⟩
  · rw [decide_eq_true (by simpa using e)] at hm
    rw [if_pos hm.symm] at hn
    refine CallL.q (c157 fs[k] [97] (by have := hs _ (List.getElem_mem hlt); omega) (hc _ (List.getElem_mem hlt)) (hj _ (List.getElem_mem hlt))) ?_
    push_cast
    exact ⟨by omega, by omega, hlt, by rw [hn]; simp, by rw [hn]; simp [Fc.sD], by rw [hn]; simp⟩
  · have e' : ¬ fs[k].tag ∈ ([[49, 48, 48], [49, 49, 48], [55, 48, 48], [55, 49, 48]] : List Str) := by simp only [List.mem_cons, List.not_mem_nil, or_false]; exact e
    rw [decide_eq_false e'] at hm
    rw [if_neg (by rw [← hm]; simp)] at hn
    exact ⟨by omega, hlt, by rw [hn], by rw [hn], by rw [hn]⟩
theorem c97_o (kind : Int) (r : Rec) (h1 : ¬ kind = 1) (h2 : ¬ kind = 2) (h3 : ¬ kind = 3) (h4 : ¬ kind = 4) (h5 : ¬ kind = 5) : AFn Tryz.prog Γ 97 [.c (.d (.int .i64 kind)), .agg (r.ds.map C.d)] [.fresh 9 1 ((rawV kind r).map Fc.sD)] := by
  have e : rawV kind r = [] := by
    unfold rawV
    rw [if_neg h1, if_neg h2, if_neg h3]
    rw [List.flatMap_eq_nil_iff]
    intro f _
    unfold rawFld
    rw [if_neg h4, if_neg h5]
  rw [e]
  have e1 := eq_false h1
  have e2 := eq_false h2
  have e3 := eq_false h3
  have e4 := eq_false h4
  have e5 := eq_false h5
  refine AFn.vc [] Tryz.func97 rfl Tryz.mixed (by kernel_rfl) Tryz.ntmps97 Tryz.results97 (by simp) ?_
  push_cast [e1, e2, e3, e4, e5]
theorem c97 (hΓ : (4, powD) ∈ Γ) (kind : Int) (r : Rec) (hr : r.fit) (hc : r.cd) : AFn Tryz.prog Γ 97 [.c (.d (.int .i64 kind)), .agg (r.ds.map C.d)] [.fresh 9 1 ((rawV kind r).map Fc.sD)] := by
  by_cases h1 : kind = 1
  · subst h1; exact c97_1 r
  by_cases h2 : kind = 2
  · subst h2; exact c97_2 r
  by_cases h3 : kind = 3
  · subst h3; exact c97_3 hΓ r hr hc
  by_cases h4 : kind = 4
  · subst h4; exact c97_4 r hr
  by_cases h5 : kind = 5
  · subst h5; exact c97_5 r hr hc
  exact c97_o kind r h1 h2 h3 h4 h5
end Go.Proofs
