/- Walks of the chapter on formats, thirteenth part: the least risk. -/
import Derived.Test.YtimehiamdikinaaFWk
import Derived.Test.YtimehiamdikinaaFDd
set_option linter.all false
namespace Go.Fm
open Go Go.Ax Go.Proofs
def idOf (l : List Fmt) (k : Nat) : Int := (l.getD k noFmt).id
structure Way (l : List Fmt) (i0 : Nat) (year : Int) (W : List Nat) : Prop where
  pos : 0 < W.length
  len : W.length ≤ 1001
  start : W.getD 0 0 = i0
  lt : ∀ k, k < W.length → W.getD k 0 < l.length
  edge : ∀ k, k + 1 < W.length → E l (W.getD k 0) (W.getD (k + 1) 0)
  cut : ∀ k j, k + 2 ≤ j → j < W.length → ¬ E l (W.getD k 0) (W.getD j 0)
  dif : ∀ j k, j < k → k < W.length → W.getD j 0 ≠ W.getD k 0
  least : ∀ v, v < l.length → Rch l i0 v → riskF (l.getD (W.getD (W.length - 1) 0) noFmt) year ≤ riskF (l.getD v noFmt) year
  rch : Rch l i0 (W.getD (W.length - 1) 0)
theorem way_ok (l : List Fmt) (ho : OkL l) (start year : Int) (h0 : 0 ≤ findF l start) : ∃ W, pathF l start year = W.map (idOf l) ∧ Way l (findF l start).toNat year W := by
  obtain ⟨hi, hid⟩ := find_id l start h0
  have hu := ho.uniq
  unfold pathF
  rw [if_neg (by omega)]
  generalize (findF l start).toNat = i0 at *
  have hg := bestF_lt l i0 year hi
  have hd := distF_ok l hu _ hg
  have hb := best_inv l i0 year hu hi l.length (Nat.le_refl _)
  simp only at hb
  change 0 ≤ (distF l (bestF l i0 year)).getD i0 0 ∧ bestF l i0 year < l.length ∧ ∀ i, i < l.length → 0 ≤ (distF l i).getD i0 0 → riskF (l.getD (bestF l i0 year) noFmt) year ≤ riskF (l.getD i noFmt) year at hb
  generalize hgg : bestF l i0 year = g at *
  have hdl := dist_lt hd i0 hi
  obtain ⟨d, hdd⟩ : ∃ d : Nat, (distF l g).getD i0 0 = d := ⟨((distF l g).getD i0 0).toNat, by omega⟩
  have hw := walkI_ok hd d i0 hi hdd
  have hwl := walkI_len l (distF l g) d i0
  have hlen := ho.len
  refine ⟨walkI l (distF l g) d i0, ?_, ?_⟩
  · have := walkI_ids l (distF l g) d i0
    unfold goF
    rw [hdd, Int.toNat_natCast]
    show _ = List.map (fun k => (l.getD k noFmt).id) _
    rw [this, getD_at hi, hid]
  have hlast : (walkI l (distF l g) d i0).getD d 0 = g := by
    obtain ⟨q1, q2, _⟩ := hw d (by omega)
    exact (hd.zero _ q1).1 (by omega)
  generalize hW : walkI l (distF l g) d i0 = W at *
  refine ⟨by omega, by omega, ?_, fun k hk => (hw k (by omega)).1, fun k hk => (hw k (by omega)).2.2 (by omega), fun k j hkj hj he => ?_, fun j k hjk hk e => ?_, fun v hv hr => ?_, ?_⟩
  · rw [← hW]; cases d <;> rfl
  · obtain ⟨a1, a2, _⟩ := hw k (by omega)
    obtain ⟨b1, b2, _⟩ := hw j (by omega)
    have := distF_fwd l hu g hg a1 b1 he (by omega)
    omega
  · obtain ⟨a1, a2, _⟩ := hw j (by omega)
    obtain ⟨b1, b2, _⟩ := hw k (by omega)
    rw [e] at a2; omega
  · rw [hwl, Nat.add_sub_cancel, hlast]
    exact hb.2.2 v hv (rch_dist hu hv hi hr (by have := ((distF_ok l hu v hv).zero v hv).2 rfl; omega))
  · rw [hwl, Nat.add_sub_cancel, hlast]
    exact dist_rch hu hg d i0 hi hdd .refl
end Go.Fm
namespace Go.Proofs
open Go Go.Ax Go.Fm
set_option maxRecDepth 100000
variable {Γ : List (Nat × List D)}
theorem idOf_at {l : List Fmt} {k : Nat} (hk : k < l.length) : idOf l k = l[k].id := by unfold idOf; rw [getD_at hk]
theorem idOf_inj {l : List Fmt} (hu : Uniq l) {a b : Nat} (ha : a < l.length) (hb : b < l.length) (h : idOf l a = idOf l b) : a = b := by
  rw [idOf_at ha, idOf_at hb] at h; exact hu a b ha hb h
theorem get_at {l : List Fmt} (hu : Uniq l) {k : Nat} (hk : k < l.length) : getF l (idOf l k) = l[k] ∧ hasF l (idOf l k) = true := by
  rw [idOf_at hk]
  unfold getF hasF
  rw [find_at l hu k hk]
  exact ⟨by rw [if_pos (by omega), Int.toNat_natCast, getD_at hk], by simp⟩
theorem c20s {l : List Fmt} (ho : OkL l) {k : Nat} (hk : k < l.length) (id : Int) (h : id = idOf l k) : AFn Try.prog Γ 20 [.c (.d (.lst 7 (l.map Fmt.ds))), .c (.d (.int .i64 id))] [.agg l[k].ds, .d (.bool true)] := by
  have := c20 (Γ := Γ) l (idOf l k) (by have := ho.len; omega)
  rw [(get_at ho.uniq hk).1, (get_at ho.uniq hk).2] at this
  rw [h]; exact this
theorem c25t {a : List Int} {x : Int} {b : Bool} (ha : a.length ≤ 1000000) (h : inF a x = b) : AFn Try.prog Γ 25 [.c (.bor 1 (a.map iD)), .c (.d (.int .i64 x))] [.d (.bool b)] := h ▸ c25 a x ha
theorem c25k {a : List Int} {x : Int} {b : Bool} {k : Nat} (ha : a.length ≤ 1000000) (h : inF (a.take k) x = b) : AFn Try.prog Γ 25 [.c (.bor 1 ((a.map iD).take k)), .c (.d (.int .i64 x))] [.d (.bool b)] := by
  rw [← List.map_take]
  exact c25t (by rw [List.length_take]; omega) h
structure Seen (l : List Fmt) (i0 : Nat) (R : List Nat) : Prop where
  nodup : R.Nodup
  ok : ∀ x ∈ R, x < l.length ∧ Rch l i0 x
  has : i0 ∈ R
theorem Seen.len {l : List Fmt} {i0 : Nat} {R : List Nat} (h : Seen l i0 R) : R.length ≤ l.length := by
  have := pigeon R (List.range l.length) h.nodup fun x hx => List.mem_range.2 (h.ok x hx).1
  simpa using this
theorem seen_one {l : List Fmt} {i0 : Nat} (h : i0 < l.length) : Seen l i0 [i0] := ⟨by simp, fun x hx => by simp at hx; subst hx; exact ⟨h, .refl⟩, by simp⟩
theorem Seen.add {l : List Fmt} {i0 : Nat} {R : List Nat} (h : Seen l i0 R) {k : Nat} (hk : k < l.length) (hr : Rch l i0 k) (hn : k ∉ R) : Seen l i0 (R ++ [k]) :=
  ⟨List.nodup_append.2 ⟨h.nodup, by simp, fun a ha b hb => by simp at hb; subst hb; exact fun e => hn (e ▸ ha)⟩, fun x hx => by
    rcases List.mem_append.1 hx with hx | hx
    · exact h.ok x hx
    · simp at hx; subst hx; exact ⟨hk, hr⟩, List.mem_append_left _ h.has⟩
theorem closed_has {l : List Fmt} {i0 : Nat} {R : List Nat} (h : Seen l i0 R) (cl : ∀ x ∈ R, ∀ k, k < l.length → E l x k → k ∈ R) {v : Nat} (hr : Rch l i0 v) : v ∈ R := by
  induction hr with
  | refl => exact h.has
  | step _ hb hc he ih => exact cl _ ih _ hc he
theorem in_ids {l : List Fmt} (hu : Uniq l) {R : List Nat} (hR : ∀ x ∈ R, x < l.length) {k : Nat} (hk : k < l.length) : inF (R.map (idOf l)) (idOf l k) = decide (k ∈ R) := by
  unfold inF
  rw [Bool.eq_iff_iff, List.any_eq_true, decide_eq_true_eq]
  constructor
  · rintro ⟨x, hx, e⟩
    obtain ⟨y, hy, rfl⟩ := List.mem_map.1 hx
    have := idOf_inj hu (hR y hy) hk (by simpa using e)
    rwa [← this]
  · intro h
    exact ⟨_, List.mem_map.2 ⟨k, h, rfl⟩, by simp⟩
set_option maxHeartbeats 4000000 in
theorem c8 (l : List Fmt) (start year : Int) (h5 : -9223372036854775808 ≤ year) (h6 : year ≤ 9223372036854775807) : AFn Try.prog Γ 8 [.c (.d (.lst 7 (l.map Fmt.ds))), .c (.d (.int .i64 start)), .c (.d (.int .i64 year))] [.d (.bool true)] := by
  refine AFn.vc [128] Try.func8 rfl Try.mixed (by kernel_rfl) Try.ntmps8 Try.results8 (by simp) ?_
  push_cast
  refine CallL.q c9 ?_
  push_cast
  refine CallL.q (c10 l) ?_
  push_cast
  intro h
  have hn := fun f hf => (small_ok h).2 f hf
  refine CallL.q (c11 l fun f hf => by have := hn f hf; omega) ?_
  push_cast
  intro hr
  have hg := good_of hr
  have ho := hg.okL h
  have hlen := ho.len
  refine CallL.q (c14 l start year ho h5 h6) ?_
  push_cast
  refine CallL.q (c20 l start (by omega)) ?_
  push_cast
  refine ⟨fun hh => ?_, fun hh => ?_⟩
  · have h0 : findF l start < 0 := by unfold hasF at hh; simp at hh; omega
    unfold pathF
    rw [if_pos h0]; rfl
  have h0 : 0 ≤ findF l start := by unfold hasF at hh; simpa using hh
  obtain ⟨W, hp, w⟩ := way_ok l ho start year h0
  obtain ⟨hi0, hid0⟩ := find_id l start h0
  generalize (findF l start).toNat = i0 at *
  have hpl : (pathF l start year).length = W.length := by rw [hp]; simp
  have hpk : ∀ k (hk : k < (pathF l start year).length), (pathF l start year)[k] = idOf l (W.getD k 0) := fun k hk => by
    have hk2 : k < W.length := by omega
    simp only [hp, List.getElem_map, getD_at hk2]
  generalize pathF l start year = p at *
  have wpos := w.pos
  have wlen := w.len
  have hs : idOf l i0 = start := by rw [idOf_at hi0]; exact hid0
  have hp0 : p[0]'(by omega) = start := by rw [hpk, w.start, hs]
  refine ⟨fun _ => ⟨by omega, fun c => c hp0, fun _ => ?_⟩, fun c => by omega⟩
  have tl : ∀ k (hk : k < l.length), l[k].to.length ≤ 1000000 := fun k hk => by have := hn _ (List.getElem_mem hk); omega
  refine LoopV.cnt Try.mixed [0, 1, 2, 7] p.length (fun k => [(10, .c (.d (.int .i64 k)))]) (fun _ => True) trivial ?_ (by push_cast)
  intro k hk _
  push_cast
  refine ⟨fun c => ?_, fun c => ?_⟩
  · have hk' : k < p.length := by omega
    have hwk := w.lt k (by omega)
    refine ⟨hk', ?_⟩
    refine CallL.q (c20s ho hwk _ (hpk k hk')) ?_
    push_cast
    have tk := tl _ hwk
    have ed : ∀ (h1 : k + 1 < p.length), inF (l[W.getD k 0]'hwk).to (p[k + 1]'h1) = true := fun h1 => by
      have := w.edge k (by omega)
      unfold E at this
      rw [getD_at hwk] at this
      rw [hpk]; exact this
    have nin : inF (p.take k) p[k] = false := by
      unfold inF
      rw [List.any_eq_false]
      intro x hx
      obtain ⟨j, hj, rfl⟩ := List.mem_take_iff_getElem.1 hx
      have hj2 : j < k := by omega
      simp only [decide_eq_true_eq]
      rw [hpk, hpk]
      intro e
      exact w.dif j k hj2 (by omega) (idOf_inj ho.uniq (w.lt j (by omega)) hwk e)
    refine ⟨⟨by omega, by omega⟩, fun d => ⟨⟨by omega, by omega⟩, by omega, by omega, ?ga⟩, fun d => ?gb⟩
    case' ga =>
      refine CallX.q (c25t tk (ed (by omega))) ?_
      push_cast
    all_goals
      refine ⟨⟨by omega, by omega⟩, hk', ?_⟩
      refine CallX.q (c25k (by omega) nin) ?_
      push_cast
      refine ⟨⟨by omega, by omega⟩, ?_⟩
      refine LoopV.cnt Try.mixed [0, 1, 2, 7, 10, 11] p.length (fun j => [(13, .c (.d (.int .i64 ((k : Int) + 2 + j))))]) (fun _ => True) trivial ?_ (by push_cast; omega)
      intro j hj _
      push_cast
      refine ⟨fun f => ?_, fun f => ⟨⟨by omega, by omega⟩, hk'⟩⟩
      have no : ∀ (z : Nat) (hz : z = k + 2 + j) (h1 : z < p.length), inF (l[W.getD k 0]'hwk).to (p[z]'h1) = false := fun z hz h1 => by
        have := w.cut k z (by omega) (by omega)
        unfold E at this
        rw [getD_at hwk] at this
        rw [hpk]; exact Bool.eq_false_iff.2 this
      refine ⟨by omega, by omega, ?_⟩
      refine CallX.q (c25t tk (no ((k : Int) + 2 + j).toNat (by omega) (by omega))) ?_
      push_cast
      refine ⟨⟨by omega, by omega⟩, by omega, by omega⟩
  · have hwl := w.lt (W.length - 1) (by omega)
    have least := w.least
    have rch := w.rch
    have hge : ∀ (z : Nat) (hz : z = W.length - 1) (h1 : z < p.length), p[z]'h1 = idOf l (W.getD (W.length - 1) 0) := fun z hz h1 => by rw [hpk, hz]
    generalize W.getD (W.length - 1) 0 = g at *
    refine ⟨⟨by omega, by omega⟩, by omega, by omega, ?_⟩
    refine CallL.q (c20s ho hwl _ (hge ((p.length : Int) - 1).toNat (by omega) (by omega))) ?_
    push_cast
    have hu := ho.uniq
    refine LoopV.of Try.mixed [0, 2, 14] (fun s : List Nat × Nat × Nat => [(16, .c (.own 2 s.2.1)), (17, .c (.d (.int .i64 s.2.2)))]) (fun s => [.box 32 ((getF l start).ds.map C.d), .box 32 (l[g].ds.map C.d), .row 3 1 ((s.1.map (idOf l)).map iD) s.2.1])
      (fun s => s.2.2 ≤ s.1.length ∧ Seen l i0 s.1 ∧ ∀ a, a < s.2.2 → ∀ k, k < l.length → E l (s.1.getD a 0) k → k ∈ s.1) (fun s => l.length - s.2.2) ([i0], 0, 0) ⟨Nat.zero_le _, seen_one hi0, fun a h => absurd h (Nat.not_lt_zero a)⟩ (by push_cast; rw [idOf_at hi0, hid0]) ?_
    rintro ⟨R, ver, i⟩ ⟨hiR, sn, cl⟩
    have hiR : i ≤ R.length := hiR
    have sn : Seen l i0 R := sn
    have cl : ∀ a, a < i → ∀ k, k < l.length → E l (R.getD a 0) k → k ∈ R := cl
    have hRl := sn.len
    push_cast
    refine ⟨fun c => ?_, fun c => ?_⟩
    · have hiR' : i < R.length := by omega
      have hvm : R[i] ∈ R := List.getElem_mem hiR'
      have gv : R.getD i 0 = R[i] := getD_at hiR' 0
      refine ⟨c, hiR', ?_⟩
      generalize R[i] = v at *
      obtain ⟨hv, hvr⟩ := sn.ok v hvm
      refine CallL.q (c20s ho hv _ rfl) ?_
      push_cast
      have ov := ho.ok _ (List.getElem_mem hv)
      have og := ho.ok _ (List.getElem_mem hwl)
      have hle := least v hv hvr
      rw [getD_at hwl, getD_at hv] at hle
      refine CallX.q (c18 l[v] year ov.u0 ov.b0 ov.b1 ov.u1 h5 h6) ?_
      push_cast
      refine CallX.q (c18 l[g] year og.u0 og.b0 og.b1 og.u1 h5 h6) ?_
      push_cast
      refine ⟨?_, fun _ => ?_⟩
      · omega
      have tv := tl v hv
      refine LoopV.of Try.mixed [0, 2, 14, 17, 18] (fun s : List Nat × Nat × Nat => [(16, .c (.own 2 s.2.1)), (20, .c (.d (.int .i64 s.2.2)))]) (fun s => [.box 32 ((getF l start).ds.map C.d), .box 32 (l[g].ds.map C.d), .row 3 1 ((s.1.map (idOf l)).map iD) s.2.1, .box 32 (l[v].ds.map C.d)])
        (fun s => s.2.2 ≤ l[v].to.length ∧ Seen l i0 s.1 ∧ (∃ X, s.1 = R ++ X) ∧ ∀ t (ht : t < l[v].to.length), t < s.2.2 → ∀ k, k < l.length → l[v].to[t] = idOf l k → k ∈ s.1) (fun s => l[v].to.length - s.2.2) (R, ver, 0) ⟨Nat.zero_le _, sn, ⟨[], by simp⟩, fun t _ h => absurd h (Nat.not_lt_zero t)⟩ (by push_cast) ?_
      rintro ⟨R', ver', t⟩ ⟨ht, sn', hX, cl'⟩
      have ht : t ≤ l[v].to.length := ht
      have sn' : Seen l i0 R' := sn'
      have hX : ∃ X, R' = R ++ X := hX
      have cl' : ∀ t' (ht' : t' < l[v].to.length), t' < t → ∀ k, k < l.length → l[v].to[t'] = idOf l k → k ∈ R' := cl'
      have hRl' := sn'.len
      push_cast
      refine ⟨fun d => ?_, fun d => ?_⟩
      · have ht' : t < l[v].to.length := by omega
        refine ⟨ht', ?_⟩
        have hxm : l[v].to[t] ∈ l[v].to := List.getElem_mem ht'
        have hcl2 : ∀ k, k < l.length → l[v].to[t] = idOf l k → (∀ R2 : List Nat, (∀ z ∈ R', z ∈ R2) → k ∈ R2 → ∀ t' (ht' : t' < l[v].to.length), t' < t + 1 → ∀ k, k < l.length → l[v].to[t'] = idOf l k → k ∈ R2) := fun k hk hx R2 hs hk2 t' ht' hlt k' hk' he => by
          rcases Nat.lt_or_ge t' t with z | z
          · exact hs _ (cl' t' ht' z k' hk' he)
          · obtain rfl : t' = t := by omega
            rw [hx] at he
            rw [← idOf_inj hu hk hk' he]; exact hk2
        obtain ⟨k, hk, hxk⟩ : ∃ k, k < l.length ∧ l[v].to[t] = idOf l k := by
          obtain ⟨hk, hkx⟩ := find_id l _ (hg.aim _ (List.getElem_mem hv) _ hxm).2
          exact ⟨_, hk, by rw [idOf_at hk]; exact hkx.symm⟩
        have hE : E l v k := by
          unfold E inF
          rw [getD_at hv, List.any_eq_true]
          exact ⟨_, hxm, by rw [hxk]; simp [idOf]⟩
        have hin : inF (R'.map (idOf l)) l[v].to[t] = decide (k ∈ R') := by rw [hxk]; exact in_ids hu (fun x hx => (sn'.ok x hx).1) hk
        refine CallL.q (c25t (by rw [List.length_map]; omega) hin) ?_
        push_cast
        obtain ⟨X, hX⟩ := hX
        refine ⟨fun hn => ⟨ht', ⟨by omega, by omega⟩, ⟨by omega, by omega⟩, (R' ++ [k], ver' + 1, t + 1), ⟨⟨?_, ?_, ?_, ?_⟩, ?_⟩, ⟨rfl, rfl⟩, ?_, rfl⟩, fun hm => ⟨⟨by omega, by omega⟩, (R', ver', t + 1), ⟨⟨?_, sn', ⟨X, hX⟩, ?_⟩, ?_⟩, ⟨rfl, rfl⟩, rfl, rfl⟩⟩
        · show t + 1 ≤ l[v].to.length
          omega
        · exact sn'.add hk (.step hvr hv hk hE) hn
        · exact ⟨X ++ [k], by rw [hX, List.append_assoc]⟩
        · exact hcl2 k hk hxk (R' ++ [k]) (fun z hz => List.mem_append_left _ hz) (by simp)
        · show l[v].to.length - (t + 1) < l[v].to.length - t
          omega
        · rw [hxk]; simp [iD]
        · show t + 1 ≤ l[v].to.length
          omega
        · exact hcl2 k hk hxk R' (fun z hz => hz) hm
        · show l[v].to.length - (t + 1) < l[v].to.length - t
          omega
      · refine ⟨⟨by omega, by omega⟩, (R', ver', i + 1), ⟨⟨?_, sn', ?_⟩, ?_⟩, ⟨rfl, rfl⟩, rfl, rfl⟩
        · obtain ⟨X, hX⟩ := hX
          show i + 1 ≤ R'.length
          rw [hX, List.length_append]; omega
        · obtain ⟨X, hX⟩ := hX
          intro a ha k hk he
          show k ∈ R'
          have ha : a < i + 1 := ha
          have gg : R'.getD a 0 = R.getD a 0 := by rw [hX, getD_at (by rw [List.length_append]; omega), getD_at (by omega), List.getElem_append_left (by omega)]
          have he : E l (R'.getD a 0) k := he
          rw [gg] at he
          rcases Nat.lt_or_ge a i with z | z
          · rw [hX]; exact List.mem_append_left _ (cl a z k hk he)
          · have hai : a = i := by omega
            rw [hai, gv] at he
            unfold E inF at he
            rw [getD_at hv, List.any_eq_true] at he
            obtain ⟨x, hx, e⟩ := he
            obtain ⟨t', ht', rfl⟩ := List.getElem_of_mem hx
            exact cl' t' ht' (by omega) k hk (by simpa [idOf] using e)
        · show l.length - (i + 1) < l.length - i
          omega
    · rw [show l[g].id = idOf l g from (idOf_at hwl).symm]
      have key : inF (R.map (idOf l)) (idOf l g) = true := by
        rw [in_ids hu (fun x hx => (sn.ok x hx).1) hwl, decide_eq_true_eq]
        refine closed_has sn (fun x hx k hk he => ?_) rch
        obtain ⟨a, ha, rfl⟩ := List.getElem_of_mem hx
        exact cl a (by omega) k hk (by rw [getD_at ha]; exact he)
      refine CallL.q (c25t (by rw [List.length_map]; omega) key) ?_
      push_cast
end Go.Proofs
