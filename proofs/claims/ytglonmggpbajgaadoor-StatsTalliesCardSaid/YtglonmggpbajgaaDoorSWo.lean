/- Part of a proof about this program; no condition of its own. -/
import Derived.Test.YtglonmggpbajgaaDoorSPc
import Derived.Test.YtglonmggpbajgaaDoorSRb
import Derived.Test.YtglonmggpbajgaaDoorGyC
import Derived.Test.YtglonmggpbajgaaDoorGyF
import Derived.Test.YtglonmggpbajgaaDoorGxR
set_option linter.all false
/- Walks of the chapter on statistics: the program's lines. -/
namespace Go.Proofs
open Go Go.Ax Go.Sd Go.Lib
set_option maxRecDepth 100000
set_option maxHeartbeats 0
variable {Γ : List (Nat × List D)}
theorem c23n (t : Tb) (ho : tbOk t = false) (hl : t.cells.length ≤ 1000) : AFn Tryd.prog Γ 23 [.agg (t.ds.map C.d)] [.d (.lst 1 ((printF t).map sD))] := by
  have no : printF t = [] := by rw [printF, ho]; rfl
  rw [no]
  refine AFn.vc [] Tryd.func23 rfl Tryd.mixed (by kernel_rfl) Tryd.ntmps23 Tryd.results23 (by simp) ?_
  push_cast
  intro h1 h2 h3 h4
  have h7 : t.rows ≤ 1000 := by omega
  have h8 : t.cols ≤ 1000 := by omega
  have hm := Int.mul_le_mul h7 h8 (by omega) (by omega)
  have hp := Int.mul_nonneg (a := t.rows) (b := t.cols) (by omega) (by omega)
  refine ⟨⟨by omega, by omega⟩, fun h5 => ?_⟩
  rw [show tbOk t = true by unfold tbOk; simp only [decide_eq_true_eq]; exact ⟨h1, h2, h3, h4, h5⟩] at ho
  cases ho
theorem c23y (hΓ : (0, powD) ∈ Γ) (t : Tb) (ho : tbOk t = true) (hl : t.cells.length ≤ 1000) (hin : ∀ n ∈ t.cells, -9223372036854775808 ≤ n ∧ n ≤ 9223372036854775807) : AFn Tryd.prog Γ 23 [.agg (t.ds.map C.d)] [.d (.lst 1 ((printF t).map sD))] := by
  refine ⟨⟨_, Tryd.func23, by kernel_rfl, by kernel_rfl⟩, fun V w vals h0 hargs => ?_⟩
  refine callsIn_wide.1 (callsIn_of_wp_marks (n := 5) Tryd.func23 rfl trivial ?_)
  refine wpIn_wide.2 ?_
  have hl' := hargs.length
  simp only [List.length_cons, List.length_nil] at hl'
  let cx : Cx := ⟨⟨0, 70, Γ⟩, w, V.I, ⟨V, []⟩, [], 0⟩
  have sat : Sat cx ⟨V, []⟩ ⟨envOf [.agg (t.ds.map C.d)] 0, []⟩ { tmps := vals.toArray ++ Array.replicate (Tryd.f23.ntmps - vals.toArray.size) undef, defers := [] } w := by
    refine ⟨⟨rfl, fun i b e hi => by simp at hi, fun i j bi bj ei ej k hi => by simp at hi, h0.view, fun b hb => ⟨h0.imm b hb, .inl hb⟩, .refl _ _, .refl _ _, h0.glob, Nat.zero_le _⟩, envOf_ok hargs _, ?_, rfl⟩
    · rw [Tryd.ntmps23]; simp [cx]; omega
  obtain ⟨rows, cols, cells⟩ := t
  have ho' := ho
  unfold tbOk at ho'
  simp only [decide_eq_true_eq] at ho' hl hin
  obtain ⟨R, rfl⟩ : ∃ R : Nat, rows = R := ⟨rows.toNat, by omega⟩
  obtain ⟨K, rfl⟩ : ∃ K : Nat, cols = K := ⟨cols.toNat, by omega⟩
  obtain ⟨g1, g2, g3, g4, g5⟩ := ho'
  have hRK : R * K = cells.length := by rw [← Int.natCast_mul] at g5; omega
  refine stepK sat ?_ (vc_ok (E := []) Tryd.mixed _ _ _ (by kernel_rfl) (id ?hh1 : ap (vc Tryd.prog _ [] _ _) (EthenT _ _ ⟨⟩ ⟨⟩) ⟨⟩)) ?nn1
  case hh1 =>
    push_cast
    exact rfl
  intro G1 a1 w1 s1
  refine stepK s1 ?_ (vc_ok (E := []) Tryd.mixed _ _ _ (by kernel_rfl) (id ?hh2 : ap (vc Tryd.prog _ [] _ _) (EthenT _ _ ⟨⟩ ⟨⟩) ⟨⟩)) ?nn2
  case hh2 =>
    push_cast
    exact rfl
  intro G2 a2 w2 s2
  refine stepK s2 ?_ (vc_ok (E := []) Tryd.mixed _ _ _ (by kernel_rfl) (id ?hh3 : ap (vc Tryd.prog _ [] _ _) (EthenT _ _ ⟨⟩ ⟨⟩) ⟨⟩)) ?nn3
  case hh3 =>
    push_cast
    have hbd : -9223372036854775808 ≤ (R : Int) * K ∧ (R : Int) * K ≤ 9223372036854775807 := by rw [g5]; omega
    refine ⟨fun _ => ⟨fun _ => ⟨fun _ => ⟨fun _ => ⟨hbd, fun c => c g5, fun _ => ?_⟩, fun c => by omega⟩, fun c => by omega⟩, fun c => by omega⟩, fun c => by omega⟩
    exact rfl
  intro G3 a3 w3 s3
  refine stepK s3 ?_ (vc_ok (E := []) Tryd.mixed _ _ _ (by kernel_rfl) (id ?hh4 : ap (vc Tryd.prog _ [] _ _) (EthenT _ _ ⟨⟩ ⟨⟩) ⟨⟩)) ?nn4
  case hh4 =>
    push_cast
    exact rfl
  intro G4 a4 w4 s4
  refine wp_seq ?_
  refine stepK s4 ?_ (vc_ok (E := []) Tryd.mixed _ _ _ (by kernel_rfl) (id ?hh5 : ap (vc Tryd.prog _ [] _ _) (EthenT _ _ ⟨⟩ ⟨⟩) ⟨⟩)) ?nn5
  case hh5 =>
    push_cast
    refine CallL.inl (n := 9) [] Tryd.func38 rfl Tryd.mixed (by kernel_rfl) Tryd.ntmps38 Tryd.results38 ?_ (hd := by show (_ : Nat) < _; exact Nat.le_of_ble_eq_true rfl)
    push_cast
    refine ⟨fun h => absurd h (by omega), fun _ => ?_⟩
    exact rfl
  intro G5 a5 w5 s5
  have hRK1 : 1 ≤ R := by omega
  have hK1 : 1 ≤ K := by omega
  refine wp_block (c23k (R := R) (K := K) (cells := cells) rfl rfl s5 rfl rfl hRK hRK1 hK1 hl _ (by kernel_rfl) ?_ _ ?_)
  · intro pre x hpre
    refine (vc_ok (E := []) Tryd.mixed _ _ (EthenT (fun st' => fitsV ⟨5, 70, Γ⟩ st' ⟨[], prH (fun i => (cells.drop (i * K)).take K) (pre ++ [x])⟩) (fun _ _ => False) ⟨⟩ ⟨⟩) (by kernel_rfl) (id ?hb : ap (vc Tryd.prog _ [] _ _) (EthenT _ _ ⟨⟩ ⟨⟩) ⟨⟩)).mono ?hm
    case hm =>
      intro e st h
      cases e with
      | normal => exact ⟨rfl, fitsV_ok h⟩
      | _ => exact h.elim
    case hb =>
      have hlr : ((cells.drop (x.val * K)).take K).length = K := by
        have h1 : (x.val + 1) * K ≤ R * K := Nat.mul_le_mul_right K x.isLt
        rw [Nat.succ_mul] at h1
        rw [List.length_take, List.length_drop]; omega
      have hbr : ∀ n ∈ (cells.drop (x.val * K)).take K, -9223372036854775808 ≤ n ∧ n ≤ 9223372036854775807 := fun n hn => hin n (List.mem_of_mem_drop (List.mem_of_mem_take hn))
      unfold prH prEnv
      rw [List.map_append]
      simp only [List.map_cons, List.map_nil, List.length_append, List.length_cons, List.length_nil]
      generalize hns : (cells.drop (x.val * K)).take K = ns at *
      have hll : (pre.map fun i => [Ax.D.str (lineF ((cells.drop (i.val * K)).take K))]).length = pre.length := List.length_map _
      generalize (pre.map fun i => [Ax.D.str (lineF ((cells.drop (i.val * K)).take K))]) = ls at *
      have hLR : pre.length < 1000 := by omega
      generalize hL : pre.length = L at *
      push_cast
      refine LoopV.nilrow 6 9 1 ?_
      refine LoopV.cntH Tryd.mixed [4, 47, 48] K (fun j => [(6, .c (.own 5 j)), (49, .c (.d (.int .i64 j)))]) (fun j => [.dead, .box 42 [.own 4 L], .dead, .dead, .row 9 1 ls L, .row 9 1 (((ns.take j).map wordF).map fun x => [.str x]) j]) (fun _ => True) trivial ?_ (by push_cast)
      intro j hj _
      push_cast
      refine ⟨fun h => ?_, fun h => ?_⟩
      · have hjn : j < ns.length := by omega
        have hjK : j < K := by omega
        have hw := hbr _ (List.getElem_mem hjn)
        refine ⟨hjn, fun e => ?_, fun e => ?_⟩
        · refine ⟨by omega, by omega, hjK, ?_⟩
          rw [take_next hjn, List.map_append, List.map_append, List.map_singleton, List.map_singleton, wordF, if_pos e]
        · refine CallL.q (c39 hΓ _ hw.1 hw.2) ?_
          push_cast
          refine ⟨by omega, by omega, hjK, ?_⟩
          rw [take_next hjn, List.map_append, List.map_append, List.map_singleton, List.map_singleton, wordF, if_neg e]
      · rw [List.take_of_length_le (by omega)]
        have hll := lineF_len ns hbr
        refine CallX.q (c40 (ns.map wordF) [32] (by rw [List.length_map]; omega) (by show (lineF ns).length ≤ _; omega)) ?_
        push_cast
        refine ⟨by omega, ?_⟩
        first
          | exact ⟨hL.symm, by rw [hns]; rfl, hL.symm⟩
          | exact ⟨rfl, rfl, rfl⟩
  · intro D W g V2 hD hle s hn
    show Code.wp Tryd.prog _ (bodyPostM Fence.wide 5 Tryd.prog Tryd.f23 (After V w [.d (.lst 1 ((printF ⟨R, K, cells⟩).map sD))])) _ _
    refine stepK s ?_ (vc_ok (E := []) Tryd.mixed _ _ _ (by kernel_rfl) (id ?hd : ap (vc Tryd.prog _ [] _ _) (EthenT _ _ ⟨⟩ ⟨⟩) ⟨⟩)) ?nd
    case hd =>
      unfold prEnv prH
      push_cast
      exact rfl
    intro G7 a7 w7 s7
    refine wp_ret ?_
    have hext := s7.h.ext.V
    have hp : (printF ⟨R, K, cells⟩).map sD = (List.finRange R).map fun i => [Ax.D.str (lineF ((cells.drop (i.val * K)).take K))] := by
      have hpr : printF ⟨R, K, cells⟩ = (List.range R).map fun i => lineF ((cells.drop (i * K)).take K) := by
        unfold printF rowT; rw [ho]; rfl
      rw [hpr]
      refine List.ext_getElem (by simp) fun i h1 h2 => ?_
      simp [sD]
    refine leave_range (cx := { cx with df := [coll D], G0 := ⟨collV V2 D, []⟩ }) (D := D) (V := V) (αs := [.c (.own 4 (List.finRange R).length)]) rfl (fun b o h => hext.H b o ((collV_le hn).H b o (hle.H b o (s5.h.ext.V.H b o h)))) (hext.H D _ (by simp [collV])) rfl h0 rfl (Nat.le_trans s5.h.below.size hD) s7 ?_ ?_ ?_ ?_
    · exact prH_flat (R := R) (fun i => (cells.drop (i * K)).take K) (List.finRange R)
    · refine flatE_of _ ?_
      simp [flatA, flatC]
    · rw [Tryd.results23]; rfl
    · push_cast
      exact hp.symm
theorem c23 (hΓ : (0, powD) ∈ Γ) (t : Tb) (hl : t.cells.length ≤ 1000) (hin : ∀ n ∈ t.cells, -9223372036854775808 ≤ n ∧ n ≤ 9223372036854775807) : AFn Tryd.prog Γ 23 [.agg (t.ds.map C.d)] [.d (.lst 1 ((printF t).map sD))] := by
  cases ho : tbOk t with
  | false => exact c23n t ho hl
  | true => exact c23y hΓ t ho hl hin
end Go.Proofs
