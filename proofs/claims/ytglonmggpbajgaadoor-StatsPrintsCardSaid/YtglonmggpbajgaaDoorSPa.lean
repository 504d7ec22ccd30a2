/- Part of a proof about this program; no condition of its own. -/
import Derived.RangeFuncBox
import Derived.RangeFuncLeaves
import Derived.RangeFuncWrites
import Derived.Shelf.Abstract
import Derived.WalkKit
import Derived.OwnWalkIn
import Derived.TacticsInMore
import Derived.LoopNIn
import Derived.LoopIn
import Derived.Test.YtglonmggpbajgaaDoorProg
set_option linter.all false
/- slices.Chunk's iterator: each part of the slice in its order. No condition. -/
namespace Go.Proofs
open Go.RowKit Go.Shelf
attribute [local go_sem] Oper.semAt_some
/-- The first k indices. -/
def upF (R k : Nat) (h : k ≤ R) : List (Fin R) := (List.finRange R).take k
theorem upF_succ {R k : Nat} (h : k < R) : (List.finRange R).take (k + 1) = (List.finRange R).take k ++ [⟨k, h⟩] := by
  rw [List.take_add_one]
  simp [h]
theorem upF_len {R k : Nat} (h : k ≤ R) : ((List.finRange R).take k).length = k := by simp [h]
/-- The two captured cells stay. -/
def KpB (Bs Bn : Nat) (A B : World) : Prop := B.cell? ⟨Bs, 0, none⟩ = A.cell? ⟨Bs, 0, none⟩ ∧ B.cell? ⟨Bn, 0, none⟩ = A.cell? ⟨Bn, 0, none⟩
set_option maxRecDepth 100000 in
set_option maxHeartbeats 2000000 in
theorem chunk_in (F : Fence) (m : Nat) (h51 : F.fn 51) (hro : F.round = none) (hm : 1 ≤ m) (l Bs Bn b off R n cap : Nat) (hn : 1 ≤ n) (hbig : R * n ≤ 4294967296) (hcap : R * n ≤ cap) (J Jx : List (Fin R) → World → Prop) (n₁ : Nat) (hJ : AbidesFrom n₁ J)
    (hY : ∀ pre (x : Fin R) W, J pre W → pre.length < R → YieldAt F (m - 1) Tryd.prog l #[.slice (some ⟨b, off + x.val * n, none⟩) n n] W fun e W' =>
      (e = .returned (.bool true) ∧ J (pre ++ [x]) W' ∧ KpB Bs Bn W W') ∨ (e = .returned (.bool false) ∧ Jx (pre ++ [x]) W'))
    (W : World) (hBs : W.cell? ⟨Bs, 0, none⟩ = some (.slice (some ⟨b, off, none⟩) (R * n) cap)) (hBn : W.cell? ⟨Bn, 0, none⟩ = some (.int .i64 n)) (h0 : J [] W) :
    CallsIn F m Tryd.prog 51 #[.func (.yield l) #[] #[], .pointer (some ⟨Bs, 0, none⟩), .pointer (some ⟨Bn, 0, none⟩)] W fun e W' => (∃ v, e = .returned v) ∧
      ((∃ ys, ys = List.finRange R ∧ J ys W') ∨ (∃ pre, Jx pre W')) := by
  refine callsIn_of_wp Tryd.func51 rfl h51 ?_ hro
  simp only [Tryd.ntmps51, List.size_toArray, List.length_cons, List.length_nil, Nat.reduceAdd, Nat.reduceSub, Array.replicate_succ, Array.replicate_zero, List.push_toArray, List.append_toArray, List.nil_append, List.cons_append]
  gi_wp2
  gi_loopw [4] (fun i wr => ∃ k : Nat, k ≤ R ∧ i = .int .i64 (k * n : Nat) ∧ J ((List.finRange R).take k) wr ∧ KpB Bs Bn W wr)
    (fun i _ => R * n - (intOf i).toNat)
  case atStart => exact ⟨0, Nat.zero_le _, by simp, by simpa using h0, rfl, rfl⟩
  case round =>
    obtain ⟨k, hk, rfl, hJs, hnx⟩ := hrel
    have hcs : wr.cell? ⟨Bs, 0, none⟩ = some (.slice (some ⟨b, off, none⟩) (R * n) cap) := hnx.1.trans hBs
    have hcn : wr.cell? ⟨Bn, 0, none⟩ = some (.int .i64 n) := hnx.2.trans hBn
    by_cases hlt : k < R
    · have hJd : J ((List.finRange R).take k) wr.drew := hJ _ wr wr.drew none hJs ⟨rfl, rfl, rfl, Nat.le_refl _, fun _ _ _ => rfl⟩ (fun r e => by cases e)
      obtain ⟨fn, tmps, assign, body, hy, hR⟩ := hY _ ⟨k, hlt⟩ wr.drew hJd (by rw [upF_len hk]; exact hlt)
      have hnd : KpB Bs Bn W wr.drew := hnx
      have h1 : k * n < R * n := Nat.mul_lt_mul_of_pos_right hlt (by omega)
      have h2 : k * n + n ≤ R * n := by rw [← Nat.succ_mul]; exact Nat.mul_le_mul_right n hlt
      gi_wp2
      gi_region
      all_goals gi_wp2
      all_goals
        refine hR.mono ?_
        rintro e W3 (⟨rfl, hJ3, hk3⟩ | ⟨rfl, hJx3⟩)
        · have hnb : KpB Bs Bn W W3 := ⟨hk3.1.trans hnd.1, hk3.2.trans hnd.2⟩
          have hcn3 : W3.cell? ⟨Bn, 0, none⟩ = some (.int .i64 n) := hnb.2.trans hBn
          gi_wp2
          go_roundw
          case rel => exact ⟨k + 1, by omega, by simp [Nat.add_mul], by rw [upF_succ hlt]; exact hJ3, hnb⟩
          case measure => simp [intOf]; omega
        · gi_wp2
          refine bodyPost_ret (results_none rfl _ _ _) rfl ?_
          exact ⟨⟨_, rfl⟩, .inr ⟨_, hJx3⟩⟩
    · obtain rfl : k = R := by omega
      gi_wp2
      go_end0
      exact ⟨⟨_, rfl⟩, .inl ⟨_, rfl, by rwa [List.take_of_length_le (by simp)] at hJs⟩⟩
end Go.Proofs
