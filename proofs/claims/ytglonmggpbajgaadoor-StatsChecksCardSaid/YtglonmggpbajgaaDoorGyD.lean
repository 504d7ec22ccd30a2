/- Part of a proof about this program; no condition of its own. -/
import Derived.Test.YtglonmggpbajgaaDoorGyB
import Derived.Test.YtglonmggpbajgaaDoorGyF
import Derived.Test.YtglonmggpbajgaaDoorAxMe
import Derived.Test.YtglonmggpbajgaaDoorGxL
import Derived.Test.YtglonmggpbajgaaDoorSRa
import Derived.Test.YtglonmggpbajgaaDoorGxR
set_option linter.all false
/- Walks of the chapter on statistics: the count. -/
namespace Go.Proofs
open Go Go.Ax Go.Sd
set_option maxRecDepth 100000
set_option maxHeartbeats 0
variable {Γ : List (Nat × List D)}
theorem Tryd.mapT56 : MapT Tryd.prog 56 [.int .i64, .int .i64] :=
  MapT.arr2i (K := 45) (E := 3) (e := 3) (q := .i64) (by kernel_rfl) (by decide) (by decide) (by kernel_rfl) (by kernel_rfl) (by kernel_rfl) (by kernel_rfl) (by kernel_rfl) (by kernel_rfl) (by kernel_rfl) Tryd.zeroValue3
def tab35 : List (List Bool × List Nat) := [([true, true, true, true, true, true, true, true, false, false, false, false, false], [8, 10]), ([true, true, true, true, true, true, true, true, true, false, false, false, false], [9, 10]), ([true, true, true, true, true, true, true, true, false, false, true, false, false], [8, 11]), ([true, true, true, true, true, true, true, true, true, true, false, false, false], [10]), ([true, true, true, true, true, true, true, true, true, false, true, false, false], [9, 11]), ([true, true, true, true, true, true, true, true, false, false, true, true, false], [8]), ([true, true, true, true, true, true, true, true, true, true, true, false, false], [11]), ([true, true, true, true, true, true, true, true, true, false, true, true, false], [9]), ([true, true, true, true, true, true, true, true, true, true, true, true, false], [12]), ([true, true, true, true, true, true, true, true, true, true, true, true, true], [])]
theorem c35 (l : List Ev) (f t b w : Int) (hl : l.length ≤ 1000) (hok : ∀ x ∈ l, x.ok) : AFn Tryd.prog Γ 35 [.c (.d (.lst 7 (l.map Ev.ds))), .c (.d (.int .i64 f)), .c (.d (.int .i64 t)), .c (.d (.int .i64 b)), .c (.d (.int .i64 w))] [.d (.mp [.int .i64, .int .i64] (cntM l f t b w))] := by
  refine AFn.vc [1000006] Tryd.func35 rfl Tryd.mixed (by kernel_rfl) Tryd.ntmps35 Tryd.results35 (by simp) ?_
  push_cast
  refine LoopV.cntH Tryd.mixed [1, 2, 3, 4, 11, 15, 16] l.length (fun k => [(17, .c (.d (.int .i64 k)))]) (fun k => [.mp [.int .i64, .int .i64] (cntM (l.take k) f t b w)]) (fun _ => True) trivial ?_ (by push_cast; rfl)
  intro k hk _
  push_cast
  refine ⟨fun h => ?_, fun h => ?_⟩
  · have hlt : k < l.length := by omega
    refine ⟨hlt, fun d1 => ⟨fun d2 => ?_, fun d2 => ?_⟩, fun d1 => ?_⟩
    · refine RegV.pre (E := [1000006]) Tryd.mixed 8 (by kernel_rfl) (by kernel_rfl) ?_
      simp only [List.take_succ_cons, List.take_zero]
      push_cast
      refine CallX.q (c13 l[k] b) ?_
      push_cast
      refine CallX.q (c13 l[k] w) ?_
      push_cast
      have hget := cntM_mget (l.take k) f t b w (keyF l[k] b) (keyF l[k] w)
      have hb := cnt2F_le (l.take k) f t b w (keyF l[k] b) (keyF l[k] w)
      have hlt2 : (l.take k).length ≤ 1000 := by rw [List.length_take]; omega
      rw [← hget] at hb
      have hi := midx_lt (m := cntM (l.take k) f t b w) (k := kk (keyF l[k] b) (keyF l[k] w))
      have k1 := keyF_in l[k] (hok _ (List.getElem_mem hlt)) b
      have k2 := keyF_in l[k] (hok _ (List.getElem_mem hlt)) w
      have hg1 := mget_mpre (cntM (l.take k) f t b w) (kk (keyF l[k] b) (keyF l[k] w))
      have hstep : cntM (l.take (k + 1)) f t b w = mput (cntM (l.take k) f t b w) (kk (keyF l[k] b) (keyF l[k] w)) (mget (cntM (l.take k) f t b w) (kk (keyF l[k] b) (keyF l[k] w)) + 1) := by
        rw [cntM_next hlt, stepM, if_pos (by simp [isW]; omega)]
      unfold kk at hget hb hi hg1 hstep
      generalize cntM (l.take k) f t b w = m at *
      generalize keyF l[k] b = u at *
      generalize keyF l[k] w = v at *
      refine RegS.tab (E := [1000006]) tab35 [none, none, none, none, none, none, none, none, some (39, .c (.d (.int .i64 (mget m [.int .i64 u, .int .i64 v])))), some (40, .c (.d (.int .i64 (mget m [.int .i64 u, .int .i64 v] + 1)))), some (41, .tup [.c (.d (.int .i64 (mget m [.int .i64 u, .int .i64 v]))), .c (.d (.int .i64 (midx m [.int .i64 u, .int .i64 v])))]), some (42, .c (.d (.int .i64 (midx m [.int .i64 u, .int .i64 v])))), none]
        [none, none, none, none, none, none, none, none, none, none, some [.mp [.int .i64, .int .i64] (mpre m [.int .i64 u, .int .i64 v]), .box 23 (l[k].ds.map C.d)], none, some [.mp [.int .i64, .int .i64] (mput m [.int .i64 u, .int .i64 v] (mget m [.int .i64 u, .int .i64 v] + 1)), .box 23 (l[k].ds.map C.d)]] (by kernel_rfl) (by kernel_rfl) rfl ?_ ?_
      · push_cast [tab35, hg1]
        repeat' (first | refine And.intro ?_ ?_ | exact Tryd.mapT56 | exact k1 | exact k2 | omega | exact rfl)
      · push_cast
        exact ⟨by omega, hlt, hstep.symm⟩
    · rw [cntM_next hlt, stepM, if_neg (by simp [isW]; omega)]
      exact ⟨by omega, hlt, rfl⟩
    · rw [cntM_next hlt, stepM, if_neg (by simp [isW]; omega)]
      exact ⟨by omega, hlt, rfl⟩
  · rw [List.take_of_length_le (by omega)]
end Go.Proofs

/- Walks of the chapter on statistics: the values. -/
namespace Go.Proofs
open Go Go.Ax Go.Sd
set_option maxRecDepth 100000
set_option maxHeartbeats 0
variable {Γ : List (Nat × List D)}
theorem Tryd.callOk48 : CallOk Tryd.prog 48 := ⟨_, Tryd.func48, by kernel_rfl, by kernel_rfl⟩
theorem Tryd.callOk49 : CallOk Tryd.prog 49 := ⟨_, Tryd.func49, by kernel_rfl, by kernel_rfl⟩
@[push_cast] theorem keyAV_kk (u v : Int) : keyAV (kk u v) = .agg [.d (.int .i64 u), .d (.int .i64 v)] := rfl
theorem iD_len {zs : List Int} : ∀ e ∈ zs.map iD, e.length = 1 := fun e he => by
  obtain ⟨n, _, rfl⟩ := List.mem_map.1 he
  rfl
theorem c36 (M : Mp) (wh : Nat) (hw : wh = 0 ∨ wh = 1) (hM : M.length ≤ 1000) (hk : ∀ kv ∈ M, kOk kv.1) : AFn Tryd.prog Γ 36 [.c (.d (.mp [.int .i64, .int .i64] M)), .c (.d (.int .i64 wh))] [.d (.lst 1 ((valsM M wh).map iD))] := by
  refine AFn.vc [] Tryd.func36 rfl Tryd.mixed (by kernel_rfl) Tryd.ntmps36 Tryd.results36 (by simp) ?_
  push_cast
  refine ⟨Tryd.mapT56, ?_⟩
  refine LoopV.nilrow 5 3 1 ?_
  push_cast
  refine LoopV.of Tryd.mixed [1, 8] (S := Mp × Option (List KD × Int) × List Int) (fun s => [(5, .c (.own 1 s.2.2.length))]) (fun s => [.it s.1 s.2.1, .row 3 1 (s.2.2.map iD) s.2.2.length]) (fun s => (s.2.2 ++ colM s.1 wh).Perm (colM M wh) ∧ ∀ kv ∈ s.1, kv ∈ M) (fun s => s.1.length) (M, none, []) (by simp) (by push_cast) ?_
  rintro ⟨todo, last, o⟩ ⟨hp, hsub⟩
  simp only at hp hsub
  have hlen := hp.length_eq
  rw [List.length_append] at hlen
  unfold colM at hlen
  rw [List.length_map, List.length_map] at hlen
  push_cast
  refine ⟨fun h => ?_, fun i hi => ?_⟩
  · subst h
    refine CallL.rowIn (Tryd.rowSort o (by omega)) iD_len rfl Tryd.callOk48 ?_
    push_cast
    have hs : o.mergeSort (fun x y => decide (x ≤ y)) = sortI (colM M wh) := sortI_perm (by simpa [colM] using hp)
    rw [hs]
    have hl2 : (sortI (colM M wh)).length ≤ 1000 := by
      unfold sortI
      rw [List.length_mergeSort]
      unfold colM
      rw [List.length_map]
      exact hM
    refine CallL.row (Tryd.rowCompact (sortI (colM M wh)) (by omega)) iD_len rfl Tryd.callOk49 ?_
    push_cast
    rfl
  · obtain ⟨u, v, hkv, _, _⟩ := hk _ (hsub _ (List.getElem_mem hi))
    rw [hkv]
    push_cast
    have hp2 : ∀ x, x = kn (kk u v) wh → (o ++ [x] ++ colM (todo.eraseIdx i) wh).Perm (colM M wh) := fun x hx => by
      have h1 := colM_erase (wh := wh) hi
      rw [hkv, ← hx] at h1
      rw [List.append_assoc]
      exact ((h1.symm.append_left o)).trans hp
    have hle : (todo.eraseIdx i).length < todo.length := by rw [List.length_eraseIdx_of_lt hi]; omega
    rcases hw with rfl | rfl
    all_goals push_cast
    · exact ⟨by omega, (todo.eraseIdx i, some todo[i], o ++ [u]), ⟨⟨hp2 u rfl, fun kv h => hsub kv (List.mem_of_mem_eraseIdx h)⟩, hle⟩, by simp, ⟨rfl, rfl⟩, by simp [iD], by simp⟩
    · exact ⟨by omega, (todo.eraseIdx i, some todo[i], o ++ [v]), ⟨⟨hp2 v rfl, fun kv h => hsub kv (List.mem_of_mem_eraseIdx h)⟩, hle⟩, by simp, ⟨rfl, rfl⟩, by simp [iD], by simp⟩
end Go.Proofs

/- Walks of the chapter on statistics: the tally. -/
namespace Go.Proofs
open Go Go.Ax Go.Sd
set_option maxRecDepth 100000
set_option maxHeartbeats 0
variable {Γ : List (Nat × List D)}
theorem c16 (l : List Ev) (f t b : Int) (hl : l.length ≤ 1000) (hok : ∀ x ∈ l, x.ok) : AFn Tryd.prog Γ 16 [.c (.d (.lst 7 (l.map Ev.ds))), .c (.d (.int .i64 f)), .c (.d (.int .i64 t)), .c (.d (.int .i64 b))] [.d (.lst 2 ((tallyM l f t b).map pD))] := by
  refine AFn.vc [] Tryd.func16 rfl Tryd.mixed (by kernel_rfl) Tryd.ntmps16 Tryd.results16 (by simp) ?_
  push_cast
  refine CallL.q (c34 b 1 7) ?_
  cases hb : inR b 1 7 with
  | false =>
    push_cast
    unfold tallyM inB
    rw [hb]; rfl
  | true =>
    push_cast
    refine CallL.q (c35 l f t b 0 hl hok) ?_
    push_cast
    have hM : (cntM l f t b 0).length ≤ 1000 := Nat.le_trans (cntM_le ..) hl
    refine CallL.q (c36 (cntM l f t b 0) 0 (.inl rfl) hM (cntM_kk l f t b 0 hok)) ?_
    have hT : tallyM l f t b = (valsM (cntM l f t b 0) 0).map fun v => (v, mget (cntM l f t b 0) (kk v (-1))) := by
      unfold tallyM inB; rw [hb]; rfl
    rw [hT]
    have hv : (valsM (cntM l f t b 0) 0).length ≤ 1000 := Nat.le_trans (valsM_le ..) hM
    have hw : ∀ n ∈ valsM (cntM l f t b 0) 0, -9223372036854775808 ≤ n ∧ n ≤ 9223372036854775807 := valsM_in (cntM_kk l f t b 0 hok)
    generalize valsM (cntM l f t b 0) 0 = vs at *
    generalize cntM l f t b 0 = m at *
    push_cast
    refine LoopV.nilrow 10 45 2 ?_
    push_cast
    refine LoopV.cntH Tryd.mixed [9, 22, 23] vs.length (fun k => [(10, .c (.own 0 k)), (24, .c (.d (.int .i64 k)))]) (fun k => [.row 45 2 (((vs.take k).map fun v => (v, mget m (kk v (-1)))).map pD) k]) (fun _ => True) trivial ?_ (by push_cast)
    intro k hk _
    push_cast
    have hlen : ((vs.take k).map fun v => (v, mget m (kk v (-1)))).length ≤ 1000 := by rw [List.length_map, List.length_take]; omega
    refine ⟨fun h => ?_, fun h => ?_⟩
    · have hlt : k < vs.length := by omega
      have h1 := hw _ (List.getElem_mem hlt)
      refine ⟨hlt, ⟨Tryd.mapT56, h1⟩, ⟨by omega, by omega⟩, by omega, hlt, ?_⟩
      rw [take_next hlt, List.map_append, List.map_append]; rfl
    · rw [List.take_of_length_le (by omega)]
end Go.Proofs

/- Walks of the chapter on statistics: the table. -/
namespace Go.Proofs
open Go Go.Ax Go.Sd
set_option maxRecDepth 100000
set_option maxHeartbeats 0
variable {Γ : List (Nat × List D)}
theorem c18 (l : List Ev) (f t b w : Int) (hl : l.length ≤ 1000) (hok : ∀ x ∈ l, x.ok) : AFn Tryd.prog Γ 18 [.c (.d (.lst 7 (l.map Ev.ds))), .c (.d (.int .i64 f)), .c (.d (.int .i64 t)), .c (.d (.int .i64 b)), .c (.d (.int .i64 w))] [.d (.lst 1 ((crossM l f t b w).1.map iD)), .d (.lst 1 ((crossM l f t b w).2.1.map iD)), .agg (crossM l f t b w).2.2.ds] := by
  refine AFn.vc [] Tryd.func18 rfl Tryd.mixed (by kernel_rfl) Tryd.ntmps18 Tryd.results18 (by simp) ?_
  push_cast
  refine CallL.q (c34 b 1 7) ?_
  cases hb : inR b 1 7 with
  | false =>
    push_cast
    rw [crossM, if_pos (.inl hb)]; simp
  | true =>
    push_cast
    refine CallL.q (c34 w 1 7) ?_
    cases hw : inR w 1 7 with
    | false =>
      push_cast
      rw [crossM, if_pos (.inr hw)]; simp
    | true =>
      push_cast
      refine CallL.q (c35 l f t b w hl hok) ?_
      push_cast
      have hM : (cntM l f t b w).length ≤ 1000 := Nat.le_trans (cntM_le ..) hl
      have hkk := cntM_kk l f t b w hok
      refine CallL.q (c36 (cntM l f t b w) 0 (.inl rfl) hM hkk) ?_
      push_cast
      refine CallL.q (c36 (cntM l f t b w) 1 (.inr rfl) hM hkk) ?_
      have hX : crossM l f t b w = if (valsM (cntM l f t b w) 0).length = 0 ∨ 64 < (valsM (cntM l f t b w) 0).length * (valsM (cntM l f t b w) 1).length then ([], [], ⟨0, 0, []⟩)
          else (valsM (cntM l f t b w) 0, valsM (cntM l f t b w) 1, ⟨(valsM (cntM l f t b w) 0).length, (valsM (cntM l f t b w) 1).length, cellsG (cntM l f t b w) (valsM (cntM l f t b w) 0) (valsM (cntM l f t b w) 1)⟩) := by
        rw [crossM, if_neg (by unfold inB; simp [hb, hw])]
      rw [hX]
      have hv1 : (valsM (cntM l f t b w) 0).length ≤ 1000 := Nat.le_trans (valsM_le ..) hM
      have hv2 : (valsM (cntM l f t b w) 1).length ≤ 1000 := Nat.le_trans (valsM_le ..) hM
      have hi1 := valsM_in hkk (wh := 0)
      have hi2 := valsM_in hkk (wh := 1)
      clear hX
      generalize valsM (cntM l f t b w) 0 = rows at *
      generalize valsM (cntM l f t b w) 1 = cols at *
      generalize cntM l f t b w = m at *
      push_cast
      refine ⟨fun h1 => ⟨⟨?_, ?_⟩, fun h3 => ?_, fun h3 => ?_⟩, fun h1 => ?_⟩
      · have := Int.mul_nonneg (a := (rows.length : Int)) (b := (cols.length : Int)) (by omega) (by omega)
        omega
      · have := Nat.mul_le_mul hv1 hv2
        have : (rows.length * cols.length : Nat) ≤ (1000000 : Int) := by omega
        rw [Int.natCast_mul] at this
        omega
      · have e : 64 < rows.length * cols.length := by rw [← Int.natCast_mul] at h3; omega
        rw [if_pos (.inr e)]; simp
      · have e : ¬ (rows.length = 0 ∨ 64 < rows.length * cols.length) := by rw [← Int.natCast_mul] at h3; omega
        rw [if_neg e]
        refine LoopV.nilbox 1 2 3 1 35 [.d (.int .i64 rows.length), .d (.int .i64 cols.length), .d (.raw (.slice none 0 0))] ?_
        push_cast
        refine LoopV.cntH Tryd.mixed [12, 13, 14, 15, 16, 57, 58] rows.length (fun i => [(59, .c (.d (.int .i64 i)))]) (fun i => [.box 35 [.d (.int .i64 0), .d (.int .i64 0), .d (.raw (.slice none 0 0))], .box 35 [.d (.int .i64 rows.length), .d (.int .i64 cols.length), .own 2 (cellsH (fun u v => mget m (kk u v)) rows cols i 0).length], .row 3 1 ((cellsH (fun u v => mget m (kk u v)) rows cols i 0).map iD) (cellsH (fun u v => mget m (kk u v)) rows cols i 0).length]) (fun _ => True) trivial ?_ (by push_cast [cellsH_0])
        intro i hi _
        push_cast
        refine ⟨fun h4 => ?_, fun h4 => ?_⟩
        · have hi' : i < rows.length := by omega
          refine ⟨hi', ?_⟩
          refine LoopV.cntH Tryd.mixed [12, 13, 14, 15, 16, 18, 57, 58, 59, 63, 64] cols.length (fun j => [(65, .c (.d (.int .i64 j)))]) (fun j => [.box 35 [.d (.int .i64 0), .d (.int .i64 0), .d (.raw (.slice none 0 0))], .box 35 [.d (.int .i64 rows.length), .d (.int .i64 cols.length), .own 2 (cellsH (fun u v => mget m (kk u v)) rows cols i j).length], .row 3 1 ((cellsH (fun u v => mget m (kk u v)) rows cols i j).map iD) (cellsH (fun u v => mget m (kk u v)) rows cols i j).length]) (fun _ => True) trivial ?_ (by push_cast)
          intro j hj _
          have hlen := cellsH_len (g := fun u v => mget m (kk u v)) hi hj
          have hle : (i + 1) * cols.length ≤ 1001 * 1000 := Nat.mul_le_mul (by omega) hv2
          push_cast
          refine ⟨fun h5 => ?_, fun h5 => ?_⟩
          · have hj' : j < cols.length := by omega
            have a1 := hi1 _ (List.getElem_mem hi')
            have a2 := hi2 _ (List.getElem_mem hj')
            have hn := cellsH_next (g := fun u v => mget m (kk u v)) hi' hj'
            rw [hn]
            exact ⟨hj', ⟨Tryd.mapT56, a1, a2⟩, by omega, by omega, hj', by simp, by rw [List.map_append]; rfl, by simp⟩
          · obtain rfl : j = cols.length := by omega
            rw [cellsH_row hi']
            exact ⟨by omega, hi', rfl, rfl, rfl⟩
        · rw [cellsH_end (by omega)]
          rfl
      · rw [if_pos (.inl (by omega))]; simp
end Go.Proofs
