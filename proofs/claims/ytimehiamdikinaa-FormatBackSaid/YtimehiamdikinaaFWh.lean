/- Walks of the chapter on formats, eighth part: ways. -/
import Derived.Test.YtimehiamdikinaaFWg
set_option linter.all false
namespace Go.Proofs
open Go Go.Ax Go.Fm
set_option maxRecDepth 100000
variable {Γ : List (Nat × List D)}
structure OkL (l : List Fmt) : Prop where
  len : l.length ≤ 1000
  ok : ∀ f ∈ l, OkF f
  asc : ∀ (a b : Nat) (ha : a < l.length) (hb : b < l.length), a < b → l[a].id < l[b].id
  to : ∀ f ∈ l, ∀ (a b : Nat) (ha : a < f.to.length) (hb : b < f.to.length), a < b → f.to[a] < f.to[b]
theorem OkL.uniq {l : List Fmt} (h : OkL l) : Uniq l := fun i j hi hj e => by
  rcases Nat.lt_trichotomy i j with h1 | h1 | h1
  · have := h.asc i j hi hj h1; omega
  · exact h1
  · have := h.asc j i hj hi h1; omega
theorem getD_at {α : Type} {l : List α} {k : Nat} (h : k < l.length) (d : α) : l.getD k d = l[k] := by simp [List.getElem?_eq_getElem h]
theorem find_id (l : List Fmt) (id : Int) (h : 0 ≤ findF l id) : ∃ hk : (findF l id).toNat < l.length, l[(findF l id).toNat].id = id := by
  rcases fI_spec (fun f => decide (f.id = id)) l 0 with ⟨h2, _⟩ | ⟨j, h2, h3, h4⟩
  · unfold findF at h; omega
  · have e : (findF l id).toNat = j := by unfold findF; rw [h2]; simp
    refine ⟨by rw [e]; exact h3, ?_⟩
    have := List.find?_some h4
    simp only [e]
    simpa using this
def hitN (l : List Fmt) (n : List Int) (i : Nat) (id : Int) : Prop := 0 ≤ findF l id ∧ n.getD (findF l id).toNat 0 = n.getD i 0 - 1
theorem nx_min {l : List Fmt} {g r : Nat} {n : List Int} (h : DistOk l g r n) (i : Nat) (hi : i < l.length) (h0 : 0 < n.getD i 0) : ∀ k, k < nx l n i → nxB l n i k = false := by
  obtain ⟨h1, _⟩ := nx_ok h i hi h0
  intro k hk
  have := List.find?_range_eq_some.1 h1
  simpa using this.2.2 k hk
theorem nx_first {l : List Fmt} (ho : OkL l) {g r : Nat} {n : List Int} (h : DistOk l g r n) (i : Nat) (hi : i < l.length) (h0 : 0 < n.getD i 0) (j : Nat) (hj : j < l[i].to.length) (hb : ∀ j' (hj' : j' < j), ¬ hitN l n i l[i].to[j'])
    (hh : hitN l n i l[i].to[j]) : nx l n i = (findF l l[i].to[j]).toNat := by
  obtain ⟨h1, h2, h3, h4⟩ := nx_ok h i hi h0
  have hm := nx_min h i hi h0
  obtain ⟨hk, hid⟩ := find_id l _ hh.1
  have hkB : nxB l n i (findF l l[i].to[j]).toNat = true := by
    unfold nxB inF
    rw [getD_at hi, getD_at hk, hid, decide_eq_true hh.2, Bool.and_true, List.any_eq_true]
    exact ⟨_, List.getElem_mem hj, by simp⟩
  rcases Nat.lt_trichotomy (nx l n i) (findF l l[i].to[j]).toNat with q | q | q
  · exfalso
    have q1 := ho.asc _ _ h2 hk q
    rw [hid] at q1
    unfold E inF at h3
    rw [getD_at hi, getD_at h2, List.any_eq_true] at h3
    obtain ⟨x, hx, hx2⟩ := h3
    obtain ⟨j', hj', e⟩ := List.getElem_of_mem hx
    have hx2 : x = l[nx l n i].id := by simpa using hx2
    have q2 : j' < j := by
      rcases Nat.lt_trichotomy j' j with z | z | z
      · exact z
      · subst z; omega
      · have := ho.to _ (List.getElem_mem hi) j j' hj hj' z; omega
    refine hb j' q2 ?_
    unfold hitN
    rw [e, hx2, find_at l ho.uniq _ h2]
    exact ⟨by omega, by rw [Int.toNat_natCast]; exact h4⟩
  · exact q
  · exact absurd hkB (by rw [hm _ q]; simp)
theorem nx_some {l : List Fmt} (ho : OkL l) {g r : Nat} {n : List Int} (h : DistOk l g r n) (i : Nat) (hi : i < l.length) (h0 : 0 < n.getD i 0) (hb : ∀ j' (hj' : j' < l[i].to.length), ¬ hitN l n i l[i].to[j']) : False := by
  obtain ⟨h1, h2, h3, h4⟩ := nx_ok h i hi h0
  unfold E inF at h3
  rw [getD_at hi, getD_at h2, List.any_eq_true] at h3
  obtain ⟨x, hx, hx2⟩ := h3
  obtain ⟨j', hj', e⟩ := List.getElem_of_mem hx
  have hx2 : x = l[nx l n i].id := by simpa using hx2
  refine hb j' hj' ?_
  unfold hitN
  rw [e, hx2, find_at l ho.uniq _ h2]
  exact ⟨by omega, by rw [Int.toNat_natCast]; exact h4⟩
theorem walkF_len (l : List Fmt) (n : List Int) : ∀ d i, (walkF l n d i).length = d
  | 0, _ => rfl
  | d + 1, i => by simp [walkF, walkF_len l n d]
def goF (l : List Fmt) (n : List Int) (i : Nat) : List Int := walkF l n (n.getD i 0).toNat i
theorem goF_next {l : List Fmt} {g r : Nat} {n : List Int} (h : DistOk l g r n) (i : Nat) (hi : i < l.length) (h0 : 0 < n.getD i 0) : goF l n i = (l.getD (nx l n i) noFmt).id :: goF l n (nx l n i) := by
  obtain ⟨h1, h2, h3, h4⟩ := nx_ok h i hi h0
  unfold goF
  rw [h4]
  obtain ⟨d, hd⟩ : ∃ d, (n.getD i 0).toNat = d + 1 := ⟨(n.getD i 0).toNat - 1, by omega⟩
  have e : (n.getD i 0 - 1).toNat = d := by omega
  rw [hd, e]; rfl
theorem goF_end {l : List Fmt} {n : List Int} {i : Nat} (h0 : n.getD i 0 ≤ 0) : goF l n i = [] := by
  unfold goF
  have : (n.getD i 0).toNat = 0 := by omega
  rw [this]; rfl
def pathF (l : List Fmt) (start year : Int) : List Int :=
  if findF l start < 0 then [] else start :: goF l (distF l (bestF l (findF l start).toNat year)) (findF l start).toNat
theorem bestF_lt (l : List Fmt) (i : Nat) (year : Int) (h : i < l.length) : bestF l i year < l.length := best_lt l i year h l.length (Nat.le_refl _)
theorem c14 (l : List Fmt) (start year : Int) (ho : OkL l) (h5 : -9223372036854775808 ≤ year) (h6 : year ≤ 9223372036854775807) : AFn Try.prog Γ 14 [.c (.d (.lst 7 (l.map Fmt.ds))), .c (.d (.int .i64 start)), .c (.d (.int .i64 year))] [.d (.lst 1 ((pathF l start year).map iD))] := by
  have hlen := ho.len
  have hto : ∀ f ∈ l, f.to.length ≤ 1000000 := fun f hf => (ho.ok f hf).t
  refine AFn.vc [25] Try.func14 rfl Try.mixed (by kernel_rfl) Try.ntmps14 Try.results14 (by simp) ?_
  push_cast
  refine CallL.q (c32 l start (by omega)) ?_
  push_cast
  have hfl : findF l start < l.length := fI_lt _ _
  refine ⟨fun h => ?_, fun h => ?_⟩
  · unfold pathF; rw [if_pos h]
  · unfold pathF; rw [if_neg (by omega)]
    generalize hi0 : (findF l start).toNat = i0
    have hi0' : i0 < l.length := by omega
    have hc : findF l start = (i0 : Int) := by omega
    rw [hc]
    refine CallL.q (c34 l i0 year hi0' hlen ho.ok h5 h6) ?_
    push_cast
    have hg := bestF_lt l i0 year hi0'
    refine CallL.q (c33 l (bestF l i0 year) hg hlen hto) ?_
    push_cast
    have hd := distF_ok l ho.uniq (bestF l i0 year) hg
    generalize distF l (bestF l i0 year) = n at *
    refine LoopV.of Try.mixed [0, 8] (fun s : Nat × List Int × Nat => [(7, .c (.d (.int .i64 s.1))), (9, .c (.own 0 s.2.2))]) (fun s => [.row 3 1 (s.2.1.map iD) s.2.2]) (fun s => s.1 < l.length ∧ s.2.1 ++ goF l n s.1 = start :: goF l n i0 ∧ s.2.1.length + (n.getD s.1 0).toNat ≤ 1001) (fun s => (n.getD s.1 0).toNat) (i0, [start], 0) ⟨hi0', rfl, ?_⟩ (by push_cast) ?_
    · have := dist_lt hd i0 hi0'
      show 1 + (n.getD i0 0).toNat ≤ 1001
      omega
    rintro ⟨i, out, ver⟩ ⟨hi, hout, hle⟩
    have hi : i < l.length := hi
    have hnl := hd.len
    have gi : n.getD i 0 = n[i]'(by omega) := getD_at _ _
    push_cast
    refine ⟨by omega, fun h2 => ?_, fun h2 => ?_⟩
    · have tl := hto _ (List.getElem_mem hi)
      have hp : 0 < n.getD i 0 := by omega
      have hle : out.length + (n.getD i 0).toNat ≤ 1001 := hle
      have hout : out ++ goF l n i = start :: goF l n i0 := hout
      obtain ⟨x1, x2, x3, x4⟩ := nx_ok hd i hi hp
      refine ⟨hi, LoopV.cnt Try.mixed [0, 7, 8, 9, 35, 36] l[i].to.length (fun j => [(37, .c (.d (.int .i64 j)))]) (fun j => ∀ j' (hj' : j' < l[i].to.length), j' < j → ¬ hitN l n i l[i].to[j']) (fun _ _ h => absurd h (Nat.not_lt_zero _)) ?_ (by push_cast)⟩
      intro j hj hin
      push_cast
      refine ⟨fun h3 => ?_, fun h3 => (nx_some ho hd i hi hp fun j' hj' => hin j' hj' (by omega)).elim⟩
      have hj' : j < l[i].to.length := by omega
      refine ⟨hj', ?_⟩
      refine CallL.q (c32 l l[i].to[j] (by omega)) ?_
      push_cast
      have hfl2 : findF l l[i].to[j] < l.length := fI_lt _ _
      have hnx : ¬ hitN l n i l[i].to[j] → ∀ j' (hj'' : j' < l[i].to.length), j' < j + 1 → ¬ hitN l n i l[i].to[j'] := fun q j' hj'' hlt => by
        rcases Nat.lt_or_ge j' j with z | z
        · exact hin j' hj'' z
        · obtain rfl : j' = j := by omega
          exact q
      refine ⟨fun h4 => ?_, fun h4 => ⟨⟨by omega, by omega⟩, hj', hnx fun q => by have := q.1; omega⟩⟩
      have hk : (findF l l[i].to[j]).toNat < n.length := by omega
      have gk : n.getD (findF l l[i].to[j]).toNat 0 = n[(findF l l[i].to[j]).toNat] := getD_at hk _
      have ub := dist_lt hd i hi
      refine ⟨h4, hk, by omega, ⟨by omega, by omega⟩, fun h6 => ?_, fun h6 => ⟨⟨by omega, by omega⟩, hj', hnx fun q => h6 (by have := q.2; omega)⟩⟩
      have hh : hitN l n i l[i].to[j] := ⟨h4, by omega⟩
      have e := nx_first ho hd i hi hp j hj' (fun j' q => hin j' (by omega) q) hh
      obtain ⟨_, hid⟩ := find_id l _ h4
      have e2 : (l.getD (nx l n i) noFmt).id = l[i].to[j] := by rw [e, getD_at (by omega)]; exact hid
      refine ⟨⟨by omega, by omega⟩, (nx l n i, out ++ [l[i].to[j]], ver + 1), ⟨⟨x2, ?_, ?_⟩, ?_⟩, ⟨?_, rfl⟩, ?_, rfl⟩
      · rw [← hout, goF_next hd i hi hp, e2]; simp
      · show (out ++ [l[i].to[j]]).length + (n.getD (nx l n i) 0).toNat ≤ 1001
        rw [x4]; simp only [List.length_append, List.length_singleton]; omega
      · show (n.getD (nx l n i) 0).toNat < _
        rw [x4]; omega
      · show ((nx l n i : Nat) : Int) = _
        rw [e]; omega
      · simp [iD]
    · have hout : out ++ goF l n i = start :: goF l n i0 := hout
      rw [goF_end (by omega)] at hout
      rw [List.append_nil] at hout
      rw [hout]; rfl
end Go.Proofs
