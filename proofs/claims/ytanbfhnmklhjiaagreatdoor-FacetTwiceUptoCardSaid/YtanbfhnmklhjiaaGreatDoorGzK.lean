/- Part of a proof about this program; no condition of its own. -/
import Derived.Test.YtanbfhnmklhjiaaGreatDoorGzH
import Derived.Test.YtanbfhnmklhjiaaGreatDoorGzJ
set_option linter.all false
/- Counting and narrowing agree, in plain data. No condition. -/
namespace Go.Fc
open Go Go.Ax Go.Or Go.Tx
def DistR (l : List Rec) : Prop := l.Pairwise fun a b => a.id ≠ b.id
theorem find_dist {l : List Rec} (h : DistR l) {r : Rec} (hr : r ∈ l) : l.find? (fun x => decide (x.id = r.id)) = some r := by
  induction l with
  | nil => cases hr
  | cons x t ih =>
    rw [List.find?_cons]
    obtain ⟨h1, h2⟩ := List.pairwise_cons.1 h
    rcases List.mem_cons.1 hr with rfl | hr
    · simp
    · have := h1 r hr
      simp only [this, decide_false]
      exact ih h2 hr
theorem narrow_spec (l : List Rec) (kind : Int) (v : Str) (ids : List Int) : (narrowF l ids kind v).Nodup ∧ ∀ x, x ∈ narrowF l ids kind v ↔ (x ∈ ids ∧ ∃ r, l.find? (fun y => decide (y.id = x)) = some r ∧ v ∈ valuesF kind r) := by
  have key : ∀ (ids done out : List Int), out.Nodup → (∀ x, x ∈ out ↔ (x ∈ done ∧ ∃ r, l.find? (fun y => decide (y.id = x)) = some r ∧ v ∈ valuesF kind r)) → (ids.foldl (stepN l kind v) out).Nodup ∧ ∀ x, x ∈ ids.foldl (stepN l kind v) out ↔ (x ∈ done ++ ids ∧ ∃ r, l.find? (fun y => decide (y.id = x)) = some r ∧ v ∈ valuesF kind r) := by
    intro ids
    induction ids with
    | nil => intro done out h1 h2; simpa using ⟨h1, h2⟩
    | cons i t ih =>
      intro done out h1 h2
      have hstep : (stepN l kind v out i).Nodup ∧ ∀ x, x ∈ stepN l kind v out i ↔ (x ∈ done ++ [i] ∧ ∃ r, l.find? (fun y => decide (y.id = x)) = some r ∧ v ∈ valuesF kind r) := by
        unfold stepN
        by_cases hi : i ∈ out
        · rw [if_pos hi]
          refine ⟨h1, fun x => ?_⟩
          rw [h2, List.mem_append, List.mem_singleton]
          constructor
          · rintro ⟨a, b⟩; exact ⟨.inl a, b⟩
          · rintro ⟨a | a, b⟩
            · exact ⟨a, b⟩
            · subst a; exact (h2 x).1 hi
        · rw [if_neg hi]
          cases hf : l.find? (fun r => decide (r.id = i)) with
          | none =>
            refine ⟨h1, fun x => ?_⟩
            rw [h2, List.mem_append, List.mem_singleton]
            constructor
            · rintro ⟨a, b⟩; exact ⟨.inl a, b⟩
            · rintro ⟨a | a, b⟩
              · exact ⟨a, b⟩
              · subst a; obtain ⟨r, b1, _⟩ := b; rw [hf] at b1; cases b1
          | some r =>
            simp only
            by_cases hv : v ∈ valuesF kind r
            · rw [if_pos hv]
              refine ⟨List.nodup_append.2 ⟨h1, by simp, fun a ha b hb => ?_⟩, fun x => ?_⟩
              · rw [List.mem_singleton.1 hb]; intro e; subst e; exact hi ha
              · rw [List.mem_append, List.mem_append, List.mem_singleton, h2]
                constructor
                · rintro (⟨a, b⟩ | a)
                  · exact ⟨.inl a, b⟩
                  · subst a; exact ⟨.inr rfl, r, hf, hv⟩
                · rintro ⟨a | a, b⟩
                  · exact .inl ⟨a, b⟩
                  · exact .inr a
            · rw [if_neg hv]
              refine ⟨h1, fun x => ?_⟩
              rw [h2, List.mem_append, List.mem_singleton]
              constructor
              · rintro ⟨a, b⟩; exact ⟨.inl a, b⟩
              · rintro ⟨a | a, b⟩
                · exact ⟨a, b⟩
                · subst a; obtain ⟨r', b1, b2⟩ := b; rw [hf] at b1; cases b1; exact absurd b2 hv
      have := ih (done ++ [i]) (stepN l kind v out i) hstep.1 hstep.2
      rw [List.append_assoc] at this
      exact this
  have := key ids [] [] (by simp) (by simp)
  simpa [narrowF] using this
theorem narrow_count {l : List Rec} (h : DistR l) (kind : Int) (v : Str) (ids : List Int) : ((narrowF l ids kind v).length : Int) = cntR kind (selR l ids) v := by
  obtain ⟨h1, h2⟩ := narrow_spec l kind v ids
  have h3 : (((selR l ids).filter fun r => decide (v ∈ valuesF kind r)).map Rec.id).Nodup := by
    rw [List.nodup_iff_pairwise_ne, List.pairwise_map]
    exact ((h.filter _).filter _)
  have hp : (narrowF l ids kind v).Perm (((selR l ids).filter fun r => decide (v ∈ valuesF kind r)).map Rec.id) := by
    rw [List.perm_ext_iff_of_nodup h1 h3]
    intro x
    rw [h2, List.mem_map]
    constructor
    · rintro ⟨a, r, b, c⟩
      have hr := List.mem_of_find?_eq_some b
      have hid : r.id = x := by have := List.find?_some b; simpa using this
      refine ⟨r, List.mem_filter.2 ⟨List.mem_filter.2 ⟨hr, by simpa [hid] using a⟩, by simpa using c⟩, hid⟩
    · rintro ⟨r, hr, rfl⟩
      obtain ⟨a, b⟩ := List.mem_filter.1 hr
      obtain ⟨a1, a2⟩ := List.mem_filter.1 a
      exact ⟨by simpa using a2, r, find_dist h a1, by simpa using b⟩
  rw [hp.length_eq, List.length_map, ← List.countP_eq_length_filter]
  rfl
theorem cnt_pos {kind : Int} {l : List Rec} {v : Str} (h : v ∈ vsF kind l) : 1 ≤ cntR kind l v := by
  unfold vsF at h
  obtain ⟨r, hr, hv⟩ := List.mem_flatMap.1 h
  have : 0 < l.countP fun r => decide (v ∈ valuesF kind r) := List.countP_pos_iff.2 ⟨r, hr, by simpa using hv⟩
  unfold cntR
  omega
theorem cnt_zero {kind : Int} {l : List Rec} {v : Str} (h : v ∉ putsS (vsF kind l)) : cntR kind l v = 0 := by
  unfold cntR
  have : l.countP (fun r => decide (v ∈ valuesF kind r)) = 0 := by
    rw [List.countP_eq_zero]
    intro r hr hv
    simp only [decide_eq_true_eq] at hv
    refine h (((putsS_spec _).2 v).2 ⟨(((putsS_spec (rawV kind r)).2 v).1 hv).1, ?_⟩)
    unfold vsF
    exact List.mem_flatMap.2 ⟨r, hr, hv⟩
  omega
end Go.Fc

/- The statement on agreement. No condition. -/
namespace Go.Proofs
open Go Go.Ax Go.Tx Go.Lib Go.Shelf Go.RowKit Go.Fc
set_option maxRecDepth 100000
set_option maxHeartbeats 0
variable {Γ : List (Nat × List D)}
theorem agree {l : List Rec} {ids : List Int} {kind : Int} {value : Str} {bks : List Bk} (hb : bks = countF l ids kind) (hdist : DistR l) :
    (∀ i (hi : i < bks.length), 1 ≤ bks[i].cnt ∧ ((narrowF l ids kind bks[i].val).length : Int) = bks[i].cnt) ∧ (∀ i (hi : i + 1 < bks.length), Or.ltS bks[i].val bks[i + 1].val = true) ∧
    ((∀ i (hi : i < bks.length), bks[i].val ≠ value) → narrowF l ids kind value = []) := by
  have hg : ∀ i (hi : i < bks.length), ∃ h : i < (putsS (vsF kind (selR l ids))).length, bks[i] = ⟨(putsS (vsF kind (selR l ids)))[i], cntR kind (selR l ids) (putsS (vsF kind (selR l ids)))[i]⟩ := fun i hi => by
    subst hb
    have h : i < (putsS (vsF kind (selR l ids))).length := by unfold countF at hi; simpa using hi
    exact ⟨h, List.getElem_map (fun v => (⟨v, cntR kind (selR l ids) v⟩ : Bk)) (l := putsS (vsF kind (selR l ids))) (i := i) (h := hi)⟩
  have hlen : bks.length = (putsS (vsF kind (selR l ids))).length := by subst hb; unfold countF; simp
  clear hb
  refine ⟨fun i hi => ?_, fun i hi => ?_, fun h => ?_⟩
  · obtain ⟨h, e⟩ := hg i hi
    have hm := List.getElem_mem h
    rw [e]
    exact ⟨cnt_pos (((putsS_spec _).2 _).1 hm).2, narrow_count hdist kind _ ids⟩
  · obtain ⟨a1, e1⟩ := hg i (by omega)
    obtain ⟨a2, e2⟩ := hg (i + 1) hi
    rw [e1, e2]
    have h4 := (putsS_spec (vsF kind (selR l ids))).1
    unfold Or.Asc at h4
    rw [List.pairwise_iff_getElem] at h4
    exact h4 i (i + 1) a1 a2 (by omega)
  · have h5 : value ∉ putsS (vsF kind (selR l ids)) := fun hm => by
      obtain ⟨i, hi, he⟩ := List.mem_iff_getElem.1 hm
      obtain ⟨a1, e1⟩ := hg i (by omega)
      refine h i (by omega) ?_
      rw [e1]
      exact he
    have h6 := narrow_count hdist kind value ids
    rw [cnt_zero h5] at h6
    exact List.eq_nil_of_length_eq_zero (by omega)
theorem c13 (hΓ : (4, powD) ∈ Γ) (l : List Rec) (ids : List Int) (kind : Int) (value : Str) (hs : ∀ r ∈ l, r.sm) (hc : ∀ r ∈ l, r.cd) (hv : value.length ≤ 2000000) : AFn Tryz.prog Γ 13 [.c (.d (.lst 5 (l.map Rec.ds))), .c (.d (.lst 1 (ids.map Fc.iD))), .c (.d (.int .i64 kind)), .c (.d (.str value))] [.d (.bool true)] := by
  refine AFn.vc [] Tryz.func13 rfl Tryz.mixed (by kernel_rfl) Tryz.ntmps13 Tryz.results13 (by simp) ?_
  push_cast
  refine CallL.q (c43 hΓ) ?_
  push_cast
  refine CallL.q (c44 l ids hs) ?_
  push_cast
  intro e e2
  obtain ⟨h1, h2, h3⟩ := few_ok e hc
  refine LoopV.cnt Tryz.mixed [0, 1, 2, 3] l.length (fun k => [(9, .c (.d (.int .i64 k)))]) (fun k => ∀ a b (ha : a < l.length) (hb : b < l.length), b < k → a < b → l[a].id ≠ l[b].id) (by intro a b _ _ h; omega) ?_ (by push_cast)
  intro k hk hd
  push_cast
  refine ⟨fun h => ?_, fun h => ?_⟩
  · have hlt : k < l.length := by omega
    refine LoopV.cnt Tryz.mixed [0, 1, 2, 3, 9] k (fun j => [(10, .c (.d (.int .i64 j)))]) (fun j => ∀ a (ha : a < l.length), a < j → l[a].id ≠ l[k].id) (by intro a _ h; omega) ?_ (by push_cast)
    intro j hj hjd
    push_cast
    refine ⟨fun h5 => ⟨by omega, by omega, fun e5 => ⟨by omega, by omega, fun a ha hb => ?_⟩⟩, fun h5 => ⟨by omega, hlt, fun a b ha hb hbk hab => ?_⟩⟩
    · by_cases ea : a = j
      · subst ea; exact e5
      · exact hjd a ha (by omega)
    · by_cases eb : b = k
      · subst eb; exact hjd a ha (by omega)
      · exact hd a b ha hb (by omega) hab
  · have hdist : DistR l := by
      unfold DistR
      rw [List.pairwise_iff_getElem]
      intro i j hi hj hij
      exact hd i j hi hj (by omega) hij
    obtain ⟨bks, hbs⟩ : ∃ b, b = countF l ids kind := ⟨_, rfl⟩
    have f3 := c49 hΓ l ids kind (by omega) (by omega) h3
    rw [← hbs] at f3
    obtain ⟨hbk, hasc, hno⟩ := agree (value := value) hbs hdist
    have hcb := count_bd kind l ids (by omega) h3
    rw [← hbs] at hcb
    clear hbs
    refine CallL.q f3 ?_
    push_cast
    refine LoopV.of0 Tryz.mixed [0, 1, 2, 3, 11] (S := Nat × Bool) (fun s => [(12, .c (.d (.bool s.2))), (13, .c (.d (.int .i64 s.1)))]) (fun s => s.1 ≤ bks.length ∧ (s.2 = true ↔ ∀ j (hj : j < bks.length), j < s.1 → bks[j].val ≠ value)) (fun s => bks.length - s.1) (0, true) ⟨Nat.zero_le _, by simp⟩ ?_ (by push_cast)
    rintro ⟨i, oth⟩ ⟨hi, ho⟩
    simp only at hi ho
    push_cast
    refine ⟨fun h5 => ?_, fun h5 => ?_⟩
    · have hlt : i < bks.length := by omega
      refine ⟨hlt, ?_⟩
      obtain ⟨b1, b2⟩ := hbk i hlt
      refine ⟨fun g1 => ⟨hlt, CallX.q (c52 hΓ l ids kind bks[i].val (by omega) (by omega) h3) ?_⟩, fun g1 => by omega⟩
      push_cast
      have nx1 : oth = true → ∃ s' : Nat × Bool, ((s'.1 ≤ bks.length ∧ (s'.2 = true ↔ ∀ j (hj : j < bks.length), j < s'.1 → ¬ bks[j].val = value)) ∧ bks.length - s'.1 < bks.length - i) ∧ s'.2 = decide (¬ bks[i].val = value) ∧ (s'.1 : Int) = i + 1 := fun ho' => by
        refine ⟨(i + 1, decide (¬ bks[i].val = value)), ⟨⟨by show i + 1 ≤ _; omega, ?_⟩, by show bks.length - (i + 1) < _; omega⟩, rfl, rfl⟩
        rw [decide_eq_true_eq]
        constructor
        · intro h j hj hji
          by_cases ej : j = i
          · subst ej; exact h
          · exact (ho.1 ho') j hj (by simp only at hji; omega)
        · intro h; exact h i hlt (by simp only; omega)
      have nx2 : oth = false → ∃ s' : Nat × Bool, ((s'.1 ≤ bks.length ∧ (s'.2 = true ↔ ∀ j (hj : j < bks.length), j < s'.1 → ¬ bks[j].val = value)) ∧ bks.length - s'.1 < bks.length - i) ∧ s'.2 = false ∧ (s'.1 : Int) = i + 1 := fun ho' => by
        refine ⟨(i + 1, false), ⟨⟨by show i + 1 ≤ _; omega, ?_⟩, by show bks.length - (i + 1) < _; omega⟩, rfl, rfl⟩
        constructor
        · intro h; cases h
        · intro h
          have := ho.2 fun j hj hji => h j hj (by simp only; omega)
          rw [ho'] at this; cases this
      have both : (oth = true → ∃ h : i < bks.length, (-9223372036854775808 ≤ (i : Int) + 1 ∧ (i : Int) + 1 ≤ 9223372036854775807) ∧ ∃ s' : Nat × Bool, ((s'.1 ≤ bks.length ∧ (s'.2 = true ↔ ∀ j (hj : j < bks.length), j < s'.1 → ¬ bks[j].val = value)) ∧ bks.length - s'.1 < bks.length - i) ∧ s'.2 = decide (¬ bks[i].val = value) ∧ (s'.1 : Int) = i + 1) ∧
          (oth = false → (-9223372036854775808 ≤ (i : Int) + 1 ∧ (i : Int) + 1 ≤ 9223372036854775807) ∧ ∃ s' : Nat × Bool, ((s'.1 ≤ bks.length ∧ (s'.2 = true ↔ ∀ j (hj : j < bks.length), j < s'.1 → ¬ bks[j].val = value)) ∧ bks.length - s'.1 < bks.length - i) ∧ s'.2 = false ∧ (s'.1 : Int) = i + 1) :=
        ⟨fun h => ⟨hlt, by omega, nx1 h⟩, fun h => ⟨by omega, nx2 h⟩⟩
      refine ⟨hlt, fun _ => ⟨fun hp => ⟨hlt, by omega, by omega, by omega, ?_⟩, fun _ => both⟩, fun h => absurd b2 h⟩
      obtain ⟨ip, rfl⟩ : ∃ ip, i = ip + 1 := ⟨i - 1, by omega⟩
      have e3 : (((ip + 1 : Nat) : Int) - 1).toNat = ip := by omega
      have ha := hasc ip hlt
      simp only [e3]
      refine ⟨fun h => ?_, fun _ => both⟩
      rcases h with h | h
      · have := Or.sto_S.asym ha
        unfold Or.ltS at this
        rw [h] at this; cases this
      · rw [h, Or.sto_S.irr] at ha; cases ha
    · intro ho'
      have hn0 := hno fun j hj => (ho.1 ho') j hj (by omega)
      have f6 := c52 (Γ := Γ) hΓ l ids kind value (by omega) (by omega) h3
      rw [hn0] at f6
      refine CallL.q f6 ?_
      push_cast
end Go.Proofs
