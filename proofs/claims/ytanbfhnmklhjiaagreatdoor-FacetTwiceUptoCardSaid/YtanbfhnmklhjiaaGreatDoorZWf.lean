/- Part of a proof about this program; no condition of its own. -/
import Derived.Test.YtanbfhnmklhjiaaGreatDoorZWe
set_option linter.all false
/- Walks: values of facets (reference), second part. -/
namespace Go.Proofs
open Go Go.Ax Go.Tx Go.Fc Go.Or Go.Lib
set_option maxRecDepth 100000
set_option maxHeartbeats 0
variable {Γ : List (Nat × List D)}
theorem c103 (n : Nat) (w : Nat) (hw : w ≤ (decDigits n).length) (hn : (n : Int) ≤ 9223372036854775807) : AFn Tryz.prog Γ 103 [.c (.d (.int .i64 n)), .c (.d (.int .i64 w))] [.d (.str (decDigits n))] := by
  refine AFn.vc [] Tryz.func103 rfl Tryz.mixed (by kernel_rfl) Tryz.ntmps103 Tryz.results103 (by simp) ?_
  push_cast
  refine LoopV.of Tryz.mixed [1, 5] (S := Nat × List UInt8) (fun s => [(0, .c (.d (.int .i64 s.1))), (6, .c (.d (.str s.2)))]) (fun _ => []) (fun s => DigI n s ∧ s.1 ≤ n ∧ (s.2 = [] ∨ s.2.length + s.1 ≤ n / 10 + 1)) (fun s => s.1 + (if s.2 = [] then 1 else 0)) (n, []) ⟨.inl ⟨rfl, rfl⟩, by simp, .inl rfl⟩ (by push_cast) ?_
  rintro ⟨m, o⟩ ⟨hI, hm, hlo⟩
  simp only at hm hlo
  push_cast
  have hsub : ((([48, 49, 50, 51, 52, 53, 54, 55, 56, 57] : List UInt8).drop ((m : Int) % 10).toNat).take (((m : Int) % 10 + 1).toNat - ((m : Int) % 10).toNat)) = [UInt8.ofNat (48 + m % 10)] := by
    rw [show ((m : Int) % 10).toNat = m % 10 by omega, show ((m : Int) % 10 + 1).toNat - m % 10 = 1 by omega]
    exact digit_at _ (Nat.mod_lt _ (by decide))
  have hol : o.length ≤ n / 10 + 1 := by
    rcases hlo with h | h
    · rw [h]; simp
    · omega
  have hmn : o = [] → m = n := fun h => by
    rcases hI with ⟨_, h2⟩ | ⟨h1, _⟩
    · exact h2
    · exact absurd h h1
  have hnext : 0 < m ∨ o = [] → (UInt8.ofNat (48 + m % 10) :: o).length + m / 10 ≤ n / 10 + 1 := fun h => by
    simp only [List.length_cons]
    rcases hlo with h2 | h2
    · have := hmn h2
      rw [h2]
      simp only [List.length_nil]
      omega
    · rcases h with h | h
      · omega
      · have := hmn h
        rw [h]
        simp only [List.length_nil]
        omega
  refine ⟨fun h => ⟨fun ho => ?_, fun ho => ?_⟩, fun h => ?_⟩
  · refine ⟨by omega, by omega, by omega, by omega, by omega, by omega, (m / 10, UInt8.ofNat (48 + m % 10) :: o), ⟨⟨hI.next (.inr ho), by show m / 10 ≤ n; omega, .inr (hnext (.inr ho))⟩, ?_⟩, rfl, by rw [hsub]; rfl⟩
    show m / 10 + (if _ = [] then 1 else 0) < m + _
    rw [if_neg (by simp), if_pos ho]
    omega
  · have hr := hI.done (by omega) ho
    have hpos : 0 < o.length := List.length_pos_iff.2 ho
    refine LoopV.of Tryz.mixed [1] (S := Unit) (fun _ => [(6, .c (.d (.str o)))]) (fun _ => []) (fun _ => True) (fun _ => 0) () trivial (by push_cast) ?_
    intro _ _
    push_cast
    have hol2 : o.length = (decDigits n).length := by rw [← hr]
    refine ⟨fun h => ?_, fun _ => hr⟩
    omega
  · refine ⟨by omega, by omega, by omega, by omega, by omega, by omega, (m / 10, UInt8.ofNat (48 + m % 10) :: o), ⟨⟨hI.next (.inl (by omega)), by show m / 10 ≤ n; omega, .inr (hnext (.inl (by omega)))⟩, ?_⟩, rfl, by rw [hsub]; rfl⟩
    show m / 10 + (if _ = [] then 1 else 0) < m + _
    rw [if_neg (by simp)]
    omega
theorem c103i (n : Int) (w : Nat) (h0 : 0 ≤ n) (hn : n ≤ 9223372036854775807) (hw : w ≤ (decDigits n.toNat).length) : AFn Tryz.prog Γ 103 [.c (.d (.int .i64 n)), .c (.d (.int .i64 w))] [.d (.str (decDigits n.toNat))] := by
  obtain ⟨k, rfl⟩ : ∃ k : Nat, n = k := ⟨n.toNat, by omega⟩
  exact c103 k w hw hn
theorem c47_1 (r : Rec) : AFn Tryz.prog Γ 47 [.c (.d (.int .i64 1)), .agg (r.ds.map C.d)] [.d (.lst 1 ((valuesF 1 r).map Fc.sD))] := by
  refine AFn.vc [] Tryz.func47 rfl Tryz.mixed (by kernel_rfl) Tryz.ntmps47 Tryz.results47 (by simp) ?_
  push_cast
  refine CallL.q (c101 [] r.lang (by simp)) ?_
  push_cast
  rfl
theorem c47_2 (r : Rec) : AFn Tryz.prog Γ 47 [.c (.d (.int .i64 2)), .agg (r.ds.map C.d)] [.d (.lst 1 ((valuesF 2 r).map Fc.sD))] := by
  obtain ⟨id, ver, rk, lang, fields⟩ := r
  by_cases hk : 1 ≤ rk ∧ rk ≤ 4
  · have : rk = 1 ∨ rk = 2 ∨ rk = 3 ∨ rk = 4 := by omega
    rcases this with rfl | rfl | rfl | rfl
    all_goals
      refine AFn.vc [] Tryz.func47 rfl Tryz.mixed (by kernel_rfl) Tryz.ntmps47 Tryz.results47 (by simp) ?_
      push_cast
      first
        | (refine CallL.q (c101 [] [98, 111, 111, 107] (by simp)) ?_; push_cast; rfl)
        | (refine CallL.q (c101 [] [115, 101, 114, 105, 97, 108] (by simp)) ?_; push_cast; rfl)
        | (refine CallL.q (c101 [] [109, 97, 112] (by simp)) ?_; push_cast; rfl)
        | (refine CallL.q (c101 [] [100, 105, 103, 105, 116, 97, 108] (by simp)) ?_; push_cast; rfl)
  · have hv : valuesF 2 ⟨id, ver, rk, lang, fields⟩ = [] := by
      unfold valuesF rawV
      rw [if_neg (by omega), if_pos rfl, if_neg hk]; rfl
    rw [hv]
    refine AFn.vc [] Tryz.func47 rfl Tryz.mixed (by kernel_rfl) Tryz.ntmps47 Tryz.results47 (by simp) ?_
    push_cast
    exact fun h1 h2 => absurd ⟨h1, h2⟩ hk
theorem c47_3 (r : Rec) (hr : r.fit) : AFn Tryz.prog Γ 47 [.c (.d (.int .i64 3)), .agg (r.ds.map C.d)] [.d (.lst 1 ((valuesF 3 r).map Fc.sD))] := by
  have hv : valuesF 3 r = putS [] (decadeS r) := by
    unfold valuesF rawV
    rw [if_neg (by omega), if_neg (by omega), if_pos rfl]; rfl
  rw [hv]
  have hb := yearFs_bd r.fields
  refine AFn.vc [] Tryz.func47 rfl Tryz.mixed (by kernel_rfl) Tryz.ntmps47 Tryz.results47 (by simp) ?_
  push_cast
  refine CallL.q (c102 r hr.sm hr.nf hr.ns) ?_
  unfold decadeS
  generalize yearFs r.fields = y at *
  push_cast
  refine ⟨fun h => ?_, fun h => ?_⟩
  · refine CallL.q (c101 [] unknownS (by simp)) ?_
    push_cast
    rw [if_pos h]
  · refine ⟨by omega, ?_⟩
    obtain ⟨Y, rfl⟩ : ∃ Y : Nat, y = Y := ⟨y.toNat, by omega⟩
    have hd := dec3 (y := Y) (by omega) (by omega)
    have hl := dec_len_k 2 (Y / 10) (by omega)
    have e : ((Y : Int) / 10).toNat = Y / 10 := by omega
    have t := c103i (Γ := Γ) ((Y : Int) / 10) 3 (by omega) (by omega) (by rw [e]; exact hd)
    rw [e] at t
    refine CallL.q t ?_
    push_cast
    refine ⟨by omega, ?_⟩
    refine CallL.q (c101 [] (decDigits (Y / 10) ++ [48, 115]) (by simp)) ?_
    push_cast
    rw [if_neg h, dec0s (by omega)]
theorem c47_4 (r : Rec) (hr : r.fit) : AFn Tryz.prog Γ 47 [.c (.d (.int .i64 4)), .agg (r.ds.map C.d)] [.d (.lst 1 ((valuesF 4 r).map Fc.sD))] := by
  have hv : valuesF 4 r = putsS (r.fields.flatMap (rawFld 4)) := by
    unfold valuesF rawV
    rw [if_neg (by omega), if_neg (by omega), if_neg (by omega)]
  obtain ⟨hsm, hnf, hns, hjl⟩ := hr
  obtain ⟨id, ver, rk, lang, fields⟩ := r
  simp only at hnf hns hjl hv
  rw [hv]
  refine AFn.vc [] Tryz.func47 rfl Tryz.mixed (by kernel_rfl) Tryz.ntmps47 Tryz.results47 (by simp) ?_
  push_cast
  refine LoopV.cntH Tryz.mixed [0, 3] fields.length (fun k => [(5, .c (.d (.lst 1 ((putsS ((fields.take k).flatMap (rawFld 4))).map Fc.sD)))), (8, .c (.d (.int .i64 k)))]) (fun _ => [.box 64 [.d (.int .i64 id), .d (.int .i64 ver), .d (.int .i64 rk), .d (.str lang), .d (.lst 4 (fields.map Fld.ds))]]) (fun _ => True) trivial ?_ (by push_cast; rfl)
  intro k hk _
  push_cast
  refine ⟨fun hlt => ?_, fun hlt => by rw [List.take_of_length_le (by omega)]⟩
  have hlt : k < fields.length := by omega
  refine ⟨hlt, ?_⟩
  have hnext := foldl_next (kind := 4) hlt
  have hb := putsS_len ((fields.take k).flatMap (rawFld 4))
  have hb2 := raws_len 4 (fields.take k)
  rw [List.length_take] at hb2
  have hno : rawFld 4 fields[k] = [] → putsS ((fields.take (k + 1)).flatMap (rawFld 4)) = putsS ((fields.take k).flatMap (rawFld 4)) := fun h => by rw [hnext, h]; rfl
  generalize putsS ((fields.take (k + 1)).flatMap (rawFld 4)) = X1 at *
  generalize putsS ((fields.take k).flatMap (rawFld 4)) = X0 at *
  have hs1 : fields[k].subs.length ≤ 2000 := hns _ (List.getElem_mem hlt)
  have hj1 := hjl _ (List.getElem_mem hlt)
  unfold rawFld at hnext hno
  rw [if_pos rfl] at hnext hno
  have hsub : ∀ h : 0 < fields[k].tag.length, isSubj fields[k].tag = decide (fields[k].tag[0].toNat = 54) := fun h => by
    match fields[k].tag, h with
    | x :: r, _ => rfl
  have hsub0 : fields[k].tag.length = 0 → isSubj fields[k].tag = false := fun h => by
    match fields[k].tag, h with
    | [], _ => rfl
  refine ⟨fun a1 => ⟨by omega, fun a2 => ?_, fun a2 => ?_⟩, fun a1 => ?_⟩
  · refine CallL.q (c104 fields[k] 97 (by omega)) ?_
    push_cast
    refine CallL.q (c101 X0 (getS fields[k].subs 97).1 (by omega)) ?_
    push_cast
    rw [if_pos (by rw [hsub (by omega)]; exact decide_eq_true (by omega))] at hnext
    exact ⟨by omega, hlt, by rw [hnext]; rfl⟩
  · exact ⟨by omega, hlt, by rw [hno (if_neg (by rw [hsub (by omega), decide_eq_false (by omega)]; simp))]⟩
  · exact ⟨by omega, hlt, by rw [hno (if_neg (by rw [hsub0 (by omega)]; simp))]⟩
theorem c47_5 (r : Rec) (hr : r.fit) : AFn Tryz.prog Γ 47 [.c (.d (.int .i64 5)), .agg (r.ds.map C.d)] [.d (.lst 1 ((valuesF 5 r).map Fc.sD))] := by
  have hv : valuesF 5 r = putsS (r.fields.flatMap (rawFld 5)) := by
    unfold valuesF rawV
    rw [if_neg (by omega), if_neg (by omega), if_neg (by omega)]
  obtain ⟨hsm, hnf, hns, hjl⟩ := hr
  obtain ⟨id, ver, rk, lang, fields⟩ := r
  simp only at hnf hns hjl hv
  rw [hv]
  refine AFn.vc [] Tryz.func47 rfl Tryz.mixed (by kernel_rfl) Tryz.ntmps47 Tryz.results47 (by simp) ?_
  push_cast
  refine LoopV.cntH Tryz.mixed [0, 3] fields.length (fun k => [(5, .c (.d (.lst 1 ((putsS ((fields.take k).flatMap (rawFld 5))).map Fc.sD)))), (8, .c (.d (.int .i64 k)))]) (fun _ => [.box 64 [.d (.int .i64 id), .d (.int .i64 ver), .d (.int .i64 rk), .d (.str lang), .d (.lst 4 (fields.map Fld.ds))]]) (fun _ => True) trivial ?_ (by push_cast; rfl)
  intro k hk _
  push_cast
  refine ⟨fun hlt => ?_, fun hlt => by rw [List.take_of_length_le (by omega)]⟩
  have hlt : k < fields.length := by omega
  refine ⟨hlt, ?_⟩
  have hnext := foldl_next (kind := 5) hlt
  have hb := putsS_len ((fields.take k).flatMap (rawFld 5))
  have hb2 := raws_len 5 (fields.take k)
  rw [List.length_take] at hb2
  have hno : rawFld 5 fields[k] = [] → putsS ((fields.take (k + 1)).flatMap (rawFld 5)) = putsS ((fields.take k).flatMap (rawFld 5)) := fun h => by rw [hnext, h]; rfl
  generalize putsS ((fields.take (k + 1)).flatMap (rawFld 5)) = X1 at *
  generalize putsS ((fields.take k).flatMap (rawFld 5)) = X0 at *
  have hs1 : fields[k].subs.length ≤ 2000 := hns _ (List.getElem_mem hlt)
  have hj1 := hjl _ (List.getElem_mem hlt)
  unfold rawFld at hnext hno
  rw [if_neg (by omega), if_pos rfl] at hnext hno
  refine ⟨fun a1 => ⟨fun a2 => ⟨fun a3 => ⟨fun a4 => ?_, fun a4 => ?_⟩, fun a3 => ?_⟩, fun a2 => ?_⟩, fun a1 => ?_⟩
  rotate_left 1
  · exact ⟨by omega, hlt, by rw [hno (if_neg (by unfold isAuth; simp [a1, a2, a3, a4]))]⟩
  all_goals
    have hy : isAuth fields[k].tag = true := by unfold isAuth; simp [*]
    rw [if_pos hy] at hnext
    refine CallL.q (c105 fields[k] [97] (by omega) (by simp) hj1) ?_
    push_cast
    refine CallL.q (c101 X0 _ (by omega)) ?_
    push_cast
    exact ⟨by omega, hlt, by rw [hnext]; rfl⟩
theorem c47_o (kind : Int) (r : Rec) (hr : r.fit) (h1 : ¬ kind = 1) (h2 : ¬ kind = 2) (h3 : ¬ kind = 3) (h4 : ¬ kind = 4) (h5 : ¬ kind = 5) : AFn Tryz.prog Γ 47 [.c (.d (.int .i64 kind)), .agg (r.ds.map C.d)] [.d (.lst 1 ((valuesF kind r).map Fc.sD))] := by
  have hv : valuesF kind r = putsS (r.fields.flatMap (rawFld kind)) := by
    unfold valuesF rawV
    rw [if_neg (by omega), if_neg (by omega), if_neg (by omega)]
  obtain ⟨hsm, hnf, hns, hjl⟩ := hr
  obtain ⟨id, ver, rk, lang, fields⟩ := r
  simp only at hnf hns hjl hv
  rw [hv]
  refine AFn.vc [] Tryz.func47 rfl Tryz.mixed (by kernel_rfl) Tryz.ntmps47 Tryz.results47 (by simp) ?_
  push_cast [eq_false h1, eq_false h2, eq_false h3, eq_false h4, eq_false h5]
  refine LoopV.cntH Tryz.mixed [0, 3] fields.length (fun k => [(5, .c (.d (.lst 1 ((putsS ((fields.take k).flatMap (rawFld kind))).map Fc.sD)))), (8, .c (.d (.int .i64 k)))]) (fun _ => [.box 64 [.d (.int .i64 id), .d (.int .i64 ver), .d (.int .i64 rk), .d (.str lang), .d (.lst 4 (fields.map Fld.ds))]]) (fun _ => True) trivial ?_ (by push_cast; rfl)
  intro k hk _
  push_cast [eq_false h1, eq_false h2, eq_false h3, eq_false h4, eq_false h5]
  refine ⟨fun hlt => ?_, fun hlt => by rw [List.take_of_length_le (by omega)]⟩
  have hlt : k < fields.length := by omega
  refine ⟨hlt, ?_⟩
  have hnext := foldl_next (kind := kind) hlt
  have hb := putsS_len ((fields.take k).flatMap (rawFld kind))
  have hb2 := raws_len kind (fields.take k)
  rw [List.length_take] at hb2
  have hno : rawFld kind fields[k] = [] → putsS ((fields.take (k + 1)).flatMap (rawFld kind)) = putsS ((fields.take k).flatMap (rawFld kind)) := fun h => by rw [hnext, h]; rfl
  generalize putsS ((fields.take (k + 1)).flatMap (rawFld kind)) = X1 at *
  generalize putsS ((fields.take k).flatMap (rawFld kind)) = X0 at *
  have hs1 : fields[k].subs.length ≤ 2000 := hns _ (List.getElem_mem hlt)
  have hj1 := hjl _ (List.getElem_mem hlt)
  unfold rawFld at hnext hno
  rw [if_neg h4, if_neg h5] at hno
  exact ⟨by omega, hlt, by rw [hno rfl]⟩
theorem c47 (kind : Int) (r : Rec) (hr : r.fit) : AFn Tryz.prog Γ 47 [.c (.d (.int .i64 kind)), .agg (r.ds.map C.d)] [.d (.lst 1 ((valuesF kind r).map Fc.sD))] := by
  by_cases h1 : kind = 1
  · subst h1; exact c47_1 r
  by_cases h2 : kind = 2
  · subst h2; exact c47_2 r
  by_cases h3 : kind = 3
  · subst h3; exact c47_3 r hr
  by_cases h4 : kind = 4
  · subst h4; exact c47_4 r hr
  by_cases h5 : kind = 5
  · subst h5; exact c47_5 r hr
  exact c47_o kind r hr h1 h2 h3 h4 h5
end Go.Proofs
