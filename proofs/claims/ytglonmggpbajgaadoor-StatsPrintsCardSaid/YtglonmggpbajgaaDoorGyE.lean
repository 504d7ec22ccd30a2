/- Part of a proof about this program; no condition of its own. -/
import Derived.Test.YtglonmggpbajgaaDoorGyC
import Derived.Test.YtglonmggpbajgaaDoorGyF
import Derived.Test.YtglonmggpbajgaaDoorGxR
set_option linter.all false
/- Walks of the chapter on statistics: decimals of the reference. -/
namespace Go.Proofs
open Go Go.Ax Go.Sd Go.Lib
set_option maxRecDepth 100000
set_option maxHeartbeats 0
variable {Γ : List (Nat × List D)}
theorem c56 (n : Nat) (hn : (n : Int) ≤ 9223372036854775807) : AFn Tryd.prog Γ 56 [.c (.d (.int .i64 n)), .c (.d (.int .i64 1))] [.d (.str (decDigits n))] := by
  refine AFn.vc [] Tryd.func56 rfl Tryd.mixed (by kernel_rfl) Tryd.ntmps56 Tryd.results56 (by simp) ?_
  push_cast
  refine LoopV.of Tryd.mixed [1, 5] (S := Nat × List UInt8) (fun s => [(0, .c (.d (.int .i64 s.1))), (6, .c (.d (.str s.2)))]) (fun _ => []) (fun s => DigI n s ∧ s.1 ≤ n ∧ (s.2 = [] ∨ s.2.length + s.1 ≤ n / 10 + 1)) (fun s => s.1 + (if s.2 = [] then 1 else 0)) (n, []) ⟨.inl ⟨rfl, rfl⟩, by simp, .inl rfl⟩ (by push_cast) ?_
  rintro ⟨m, o⟩ ⟨hI, hm, hlo⟩
  simp only at hm hlo
  push_cast
  have hsub : ((([48, 49, 50, 51, 52, 53, 54, 55, 56, 57] : List UInt8).drop ((m : Int) % 10).toNat).take (((m : Int) % 10 + 1).toNat - ((m : Int) % 10).toNat)) = [UInt8.ofNat (48 + m % 10)] := by
    rw [show ((m : Int) % 10).toNat = m % 10 by omega, show ((m : Int) % 10 + 1).toNat - m % 10 = 1 by omega]
    exact digit_at _ (Nat.mod_lt _ (by decide))
  have hol : o.length ≤ n / 10 + 1 := by
    rcases hlo with h | h
    · rw [h]; simp
    · omega
  have hmn : o = [] → m = n := fun h => by
    rcases hI with ⟨_, h2⟩ | ⟨h1, _⟩
    · exact h2
    · exact absurd h h1
  have hnext : 0 < m ∨ o = [] → (UInt8.ofNat (48 + m % 10) :: o).length + m / 10 ≤ n / 10 + 1 := fun h => by
    simp only [List.length_cons]
    rcases hlo with h2 | h2
    · have := hmn h2
      rw [h2]
      simp only [List.length_nil]
      omega
    · rcases h with h | h
      · omega
      · have := hmn h
        rw [h]
        simp only [List.length_nil]
        omega
  refine ⟨fun h => ⟨fun ho => ?_, fun ho => ?_⟩, fun h => ?_⟩
  · refine ⟨by omega, by omega, by omega, by omega, by omega, by omega, (m / 10, UInt8.ofNat (48 + m % 10) :: o), ⟨⟨hI.next (.inr ho), by show m / 10 ≤ n; omega, .inr (hnext (.inr ho))⟩, ?_⟩, rfl, by rw [hsub]; rfl⟩
    show m / 10 + (if _ = [] then 1 else 0) < m + _
    rw [if_neg (by simp), if_pos ho]
    omega
  · have hr := hI.done (by omega) ho
    have hpos : 0 < o.length := List.length_pos_iff.2 ho
    refine LoopV.of Tryd.mixed [1] (S := Unit) (fun _ => [(6, .c (.d (.str o)))]) (fun _ => []) (fun _ => True) (fun _ => 0) () trivial (by push_cast) ?_
    intro _ _
    push_cast
    refine ⟨fun h => ?_, fun _ => hr⟩
    omega
  · refine ⟨by omega, by omega, by omega, by omega, by omega, by omega, (m / 10, UInt8.ofNat (48 + m % 10) :: o), ⟨⟨hI.next (.inl (by omega)), by show m / 10 ≤ n; omega, .inr (hnext (.inl (by omega)))⟩, ?_⟩, rfl, by rw [hsub]; rfl⟩
    show m / 10 + (if _ = [] then 1 else 0) < m + _
    rw [if_neg (by simp)]
    omega
theorem c56i (n : Int) (h0 : 0 ≤ n) (hn : n ≤ 9223372036854775807) : AFn Tryd.prog Γ 56 [.c (.d (.int .i64 n)), .c (.d (.int .i64 1))] [.d (.str (decDigits n.toNat))] := by
  obtain ⟨k, rfl⟩ : ∃ k : Nat, n = k := ⟨n.toNat, by omega⟩
  exact c56 k hn
theorem c41 (n : Int) (h0 : -9223372036854775808 ≤ n) (h1 : n ≤ 9223372036854775807) : AFn Tryd.prog Γ 41 [.c (.d (.int .i64 n))] [.d (.str (itoa n))] := by
  by_cases h : 0 ≤ n
  · refine AFn.vc [] Tryd.func41 rfl Tryd.mixed (by kernel_rfl) Tryd.ntmps41 Tryd.results41 (by simp) ?_
    push_cast
    refine ⟨fun _ => ?_, fun h' => by omega⟩
    refine CallL.q (c56i n h h1) ?_
    push_cast
    unfold itoa
    rw [if_neg (by omega)]
  have hq : -922337203685477581 ≤ n.tdiv 10 ∧ n.tdiv 10 ≤ 0 ∧ -9 ≤ n.tmod 10 ∧ n.tmod 10 ≤ 0 := by
    obtain ⟨k, rfl⟩ : ∃ k : Nat, n = -(k : Int) := ⟨n.natAbs, by omega⟩
    rw [Int.neg_tdiv, Int.neg_tmod]
    have e1 : (k : Int).tdiv 10 = (k / 10 : Nat) := rfl
    have e2 : (k : Int).tmod 10 = (k % 10 : Nat) := rfl
    rw [e1, e2]
    omega
  have hi := itoa_neg (n := n) (by omega)
  refine AFn.of_bodyX Tryd.func41 (by kernel_rfl) rfl (by rw [Tryd.ntmps41]; simp) ?_
  rw [Tryd.ntmps41, Tryd.results41]
  refine AXc.seq fun K hK => vc_ok (E := []) Tryd.mixed _ _ _ (by kernel_rfl) ?_
  refine (id ?_ : ap (vc Tryd.prog _ [] _ _) (EthenT K _ ⟨⟩ ⟨⟩) ⟨⟩)
  push_cast
  refine hK _ ?_
  refine AXc.seq fun K hK => vc_ok (E := []) Tryd.mixed _ _ _ (by kernel_rfl) ?_
  refine (id ?_ : ap (vc Tryd.prog _ [] _ _) (EthenT K _ ⟨⟩ ⟨⟩) ⟨⟩)
  push_cast
  refine ⟨fun h' => absurd h' h, fun _ => hK _ ?_⟩
  refine AXc.seq fun K hK => AXc.region ?_
  refine AXl.qt rfl (Nat.le_of_ble_eq_true rfl) (Still.qt (s_move _)) ?_
  refine AXl.qt rfl (Nat.le_of_ble_eq_true rfl) (Still.qt (s_remT (k := .i64) (m := n) (n := 10) _ _ _ _ rfl rfl (by decide))) ?_
  generalize n.tmod 10 = r at *
  refine AXl.qt rfl (Nat.le_of_ble_eq_true rfl) (Still.qt (s_neg (k := .i64) (m := r) _ _ rfl (wrap_neg _ _ (by rw [inK_i64]; omega)))) ?_
  refine AXl.qt rfl (Nat.le_of_ble_eq_true rfl) (Still.qt (s_assign _)) ?_
  refine AXl.nil (hK _ ?_)
  refine AXc.seq fun K hK => AXc.region ?_
  refine AXl.qt rfl (Nat.le_of_ble_eq_true rfl) (Still.qt (s_move _)) ?_
  refine AXl.qt rfl (Nat.le_of_ble_eq_true rfl) (Still.qt (s_quoT (m := n) (n := 10) _ _ _ _ rfl rfl (by decide) (inK_wrap (by rw [inK_i64]; omega)))) ?_
  generalize n.tdiv 10 = q at *
  refine AXl.qt rfl (Nat.le_of_ble_eq_true rfl) (Still.qt (s_neg (k := .i64) (m := q) _ _ rfl (wrap_neg _ _ (by rw [inK_i64]; omega)))) ?_
  refine AXl.qt rfl (Nat.le_of_ble_eq_true rfl) (Still.qt (s_assign _)) ?_
  refine AXl.nil (hK _ ?_)
  refine vc_ok (E := []) Tryd.mixed _ _ _ (by kernel_rfl) ?_
  refine (id ?_ : ap (vc Tryd.prog _ [] _ _) (FinX _ _ _) ⟨⟩)
  push_cast
  rw [hi]
  refine ⟨fun e => ?_, fun e => ?_⟩
  · refine CallL.q (c56i (-r) (by omega) (by omega)) ?_
    push_cast
    have := dec_len (-r).toNat
    exact ⟨by omega, by rw [if_pos e]⟩
  · refine CallL.q (c56i (-q) (by omega) (by omega)) ?_
    push_cast
    have := dec_len (-q).toNat
    refine ⟨by omega, ?_⟩
    refine CallL.q (c56i (-r) (by omega) (by omega)) ?_
    push_cast
    have := dec_len (-r).toNat
    refine ⟨by omega, ?_⟩
    rw [if_neg e]
end Go.Proofs

/- Walks of the chapter on statistics: the reference's lines. -/
namespace Go.Proofs
open Go Go.Ax Go.Sd Go.Lib
set_option maxRecDepth 100000
set_option maxHeartbeats 0
variable {Γ : List (Nat × List D)}
theorem c24 (t : Tb) (hl : t.cells.length ≤ 1000) (hin : ∀ n ∈ t.cells, -9223372036854775808 ≤ n ∧ n ≤ 9223372036854775807) : AFn Tryd.prog Γ 24 [.agg (t.ds.map C.d)] [.d (.lst 1 ((printF t).map sD))] := by
  refine AFn.vc [] Tryd.func24 rfl Tryd.mixed (by kernel_rfl) Tryd.ntmps24 Tryd.results24 (by simp) ?_
  push_cast
  have no : tbOk t = false → printF t = [] := fun h => by rw [printF, h]; rfl
  refine ⟨fun h1 => ⟨fun h2 => ⟨fun h3 => ⟨fun h4 => ⟨⟨?_, ?_⟩, fun h5 => ?_, fun h5 => ?_⟩, fun h4 => ?_⟩, fun h3 => ?_⟩, fun h2 => ?_⟩, fun h1 => ?_⟩
  · have := Int.mul_nonneg (a := t.rows) (b := t.cols) (by omega) (by omega)
    omega
  · have h7 : t.rows ≤ 1000 := by omega
    have h8 : t.cols ≤ 1000 := by omega
    have := Int.mul_le_mul h7 h8 (by omega) (by omega)
    omega
  · rw [no (by unfold tbOk; simp only [decide_eq_false_iff_not]; omega)]
  · have ho : tbOk t = true := by unfold tbOk; simp only [decide_eq_true_eq]; exact ⟨h1, h2, h3, h4, h5⟩
    obtain ⟨rows, cols, cells⟩ := t
    simp only at *
    obtain ⟨R, rfl⟩ : ∃ R : Nat, rows = R := ⟨rows.toNat, by omega⟩
    obtain ⟨K, rfl⟩ : ∃ K : Nat, cols = K := ⟨cols.toNat, by omega⟩
    have hp : printF ⟨R, K, cells⟩ = (List.range R).map fun i => lineF ((cells.drop (i * K)).take K) := by
      unfold printF rowT; rw [ho]; rfl
    have hRK : R * K = cells.length := by rw [← Int.natCast_mul] at h5; omega
    rw [hp]
    refine LoopV.nilrow 3 9 1 ?_
    push_cast
    refine LoopV.cntH Tryd.mixed [1] R (fun i => [(3, .c (.own 1 i)), (4, .c (.d (.int .i64 i)))]) (fun i => [.box 35 [.d (.int .i64 R), .d (.int .i64 K), .d (.lst 1 (cells.map iD))], .row 9 1 (((List.range i).map fun i => lineF ((cells.drop (i * K)).take K)).map sD) i]) (fun _ => True) trivial ?_ (by push_cast; rfl)
    intro i hi _
    push_cast
    refine ⟨fun h6 => ?_, fun h6 => ?_⟩
    · have hi' : i < R := by omega
      have hiK : (i + 1) * K ≤ R * K := Nat.mul_le_mul_right K hi'
      rw [Nat.succ_mul] at hiK
      refine LoopV.cnt Tryd.mixed [1, 3, 4] K (fun j => [(5, .c (.d (.str (lineF (((cells.drop (i * K)).take K).take j))))), (6, .c (.d (.int .i64 j)))]) (fun _ => True) trivial ?_ (by push_cast; rfl)
      intro j hj _
      have hlr : ((cells.drop (i * K)).take K).length = K := by rw [List.length_take, List.length_drop]; omega
      have hll := lineF_len (((cells.drop (i * K)).take K).take j) (fun n hn => hin n (List.mem_of_mem_drop (List.mem_of_mem_take (List.mem_of_mem_take hn))))
      rw [List.length_take, hlr] at hll
      have hidx : ((i : Int) * K + j).toNat = i * K + j := by rw [← Int.natCast_mul]; omega
      push_cast
      simp only [hidx]
      refine ⟨fun h7 => ?_, fun h7 => ?_⟩
      · have hj' : j < K := by omega
        have hjr : j < ((cells.drop (i * K)).take K).length := by omega
        have hcl : i * K + j < cells.length := by omega
        have hx : ((cells.drop (i * K)).take K)[j] = cells[i * K + j] := by simp
        have hs := lineF_step hjr
        rw [hx] at hs
        have hb := hin _ (List.getElem_mem hcl)
        have hwl := wordF_len hb.1 hb.2
        have hbound : (-9223372036854775808 ≤ (i : Int) * K ∧ (i : Int) * K ≤ 9223372036854775807) ∧ (-9223372036854775808 ≤ (i : Int) * K + j ∧ (i : Int) * K + j ≤ 9223372036854775807) ∧ 0 ≤ (i : Int) * K + j := by
          rw [← Int.natCast_mul]; omega
        refine ⟨fun h8 => ⟨by omega, hbound.1, hbound.2.1, hbound.2.2, by omega, fun e => ?_, fun e => ?_⟩, fun h8 => ⟨hbound.1, hbound.2.1, hbound.2.2, by omega, fun e => ?_, fun e => ?_⟩⟩
        · refine ⟨by omega, by omega, hj', ?_⟩
          rw [hs, if_neg (by omega), e]; rfl
        · have hwe : wordF cells[i * K + j] = itoa cells[i * K + j] := if_neg e
          rw [hwe] at hwl hs
          refine CallL.q (c41 _ hb.1 hb.2) ?_
          push_cast
          refine ⟨by omega, by omega, hj', ?_⟩
          rw [hs, if_neg (by omega)]
        · obtain rfl : j = 0 := by omega
          refine ⟨by simp [lineF_nil], by omega, hj', ?_⟩
          rw [hs, if_pos rfl, e]; rfl
        · have hwe : wordF cells[i * K + j] = itoa cells[i * K + j] := if_neg e
          rw [hwe] at hwl hs
          refine CallL.q (c41 _ hb.1 hb.2) ?_
          obtain rfl : j = 0 := by omega
          simp only [Nat.add_zero] at hwl hs
          push_cast
          refine ⟨by simp only [lineF_nil, List.length_nil]; omega, hj', ?_⟩
          rw [hs, if_pos trivial]; rfl
      · obtain rfl : j = K := by omega
        refine ⟨by omega, by omega, hi', ?_⟩
        rw [List.range_succ, List.map_append, List.map_append, List.take_of_length_le (Nat.le_of_eq hlr)]
        rfl
    · rw [show i = R by omega]
  all_goals rw [no (by unfold tbOk; simp only [decide_eq_false_iff_not]; omega)]
end Go.Proofs
