/- Part of a proof about this program; no condition of its own. -/
import Derived.Test.YtanbfhnmklhjiaaDoorGwK
import Derived.Test.YtanbfhnmklhjiaaDoorGxD
import Derived.Test.YtanbfhnmklhjiaaDoorGxR
set_option linter.all false
/- The reference's decimals, near, Page and Print; the program's Page at a negative place. No condition. -/
namespace Go.Pg
open Go Go.Lib
theorem dec_sm {n : Nat} (h : n < 10) : decDigits n = [UInt8.ofNat (48 + n)] := by rw [decDigits, dif_pos h]
theorem dec_bg {n : Nat} (h : ¬ n < 10) : decDigits n = decDigits (n / 10) ++ [UInt8.ofNat (48 + n % 10)] := by rw [decDigits, dif_neg h]
theorem dec_le (n : Nat) (h : n < 18446744073709551616) : (decDigits n).length ≤ 20 := by
  rw [decDigits_length]; exact nDigits_le20 n h
end Go.Pg
namespace Go.Proofs
open Go Go.Ax Go.Tx Go.Lib Go.RowKit Go.Fc Go.Pg
set_option maxRecDepth 100000
set_option maxHeartbeats 0
variable {Γ : List (Nat × List D)}
theorem c23 (n : Nat) (hn : (n : Int) ≤ 9223372036854775807) : AFn Tryd.prog Γ 23 [.c (.d (.int .i64 n))] [.d (.str (decDigits n))] := by
  refine AFn.vcX [] [5] Tryd.func23 rfl Tryd.mixed (by kernel_rfl) Tryd.ntmps23 Tryd.results23 (by simp) ?_
  push_cast
  refine LoopV.ofX [3] Tryd.mixed [] (S := Nat × List UInt8) (fun s => [(0, .c (.d (.int .i64 s.1))), (3, .c (.d (.str s.2)))]) (fun _ => []) (fun s => decDigits s.1 ++ s.2 = decDigits n ∧ s.1 ≤ n) (fun s => s.1) (n, []) ⟨by simp, Nat.le_refl _⟩ (by push_cast) ?_
  rintro ⟨m, o⟩ ⟨hI, hm⟩
  simp only at hI hm
  have hol : o.length ≤ 20 := by
    have := congrArg List.length hI
    have := dec_le n (by omega)
    rw [List.length_append] at *
    omega
  push_cast
  refine ⟨fun h => ?_, fun h => ?_⟩
  · intro hok
    refine AXc.region ?_
    refine AXl.pre [] 0 5 hok ?_
    push_cast
    refine ⟨by omega, by omega, ?_⟩
    refine AXl.qt rfl (Nat.le_of_ble_eq_true rfl) (Still.qt (s_byteStr rfl (by kernel_rfl) (by kernel_rfl))) ?_
    refine AXl.pre [] 6 3 hok ?_
    push_cast
    refine ⟨by omega, AXl.nil ?_⟩
    push_cast
    refine ⟨by omega, (m / 10, UInt8.ofNat (48 + (m : Int) % 10).toNat :: o), ⟨⟨?_, by show m / 10 ≤ n; omega⟩, by show m / 10 < m; omega⟩, rfl, rfl⟩
    rw [← hI, dec_bg (n := m) (by omega), show (48 + (m : Int) % 10).toNat = 48 + m % 10 by omega]
    simp
  · intro hok
    refine AXc.region ?_
    refine AXl.pre [] 0 4 hok ?_
    push_cast
    refine ⟨by omega, by omega, ?_⟩
    refine AXl.qt rfl (Nat.le_of_ble_eq_true rfl) (Still.qt (s_byteStr rfl (by kernel_rfl) (by kernel_rfl))) ?_
    refine AXl.pre [] 5 3 hok ?_
    push_cast
    refine ⟨by omega, AXl.nil ?_⟩
    push_cast
    rw [← hI, dec_sm (n := m) (by omega), show (48 + (m : Int)).toNat = 48 + m by omega]
    rfl
theorem c23i (n : Int) (h0 : 0 ≤ n) (hn : n ≤ 9223372036854775807) : AFn Tryd.prog Γ 23 [.c (.d (.int .i64 n))] [.d (.str (decDigits n.toNat))] := by
  obtain ⟨k, rfl⟩ : ∃ k : Nat, n = k := ⟨n.toNat, by omega⟩
  exact c23 k hn
theorem c16 (n : Int) (h0 : -9223372036854775808 ≤ n) (h1 : n ≤ 9223372036854775807) : AFn Tryd.prog Γ 16 [.c (.d (.int .i64 n))] [.d (.str (itoa n))] := by
  have hq : ¬ 0 ≤ n → -922337203685477580 ≤ n.tdiv 10 ∧ n.tdiv 10 ≤ 0 ∧ -9 ≤ n.tmod 10 ∧ n.tmod 10 ≤ 0 ∧ itoa n = 45 :: ((if n.tdiv 10 ≠ 0 then decDigits (-(n.tdiv 10)).toNat else []) ++ [UInt8.ofNat (48 - n.tmod 10).toNat]) := by
    intro h
    obtain ⟨k, rfl, hk⟩ : ∃ k : Nat, n = -(k : Int) ∧ 0 < k := ⟨n.natAbs, by omega, by omega⟩
    rw [Int.neg_tdiv, Int.neg_tmod]
    have e1 : (k : Int).tdiv 10 = (k / 10 : Nat) := rfl
    have e2 : (k : Int).tmod 10 = (k % 10 : Nat) := rfl
    rw [e1, e2]
    refine ⟨by omega, by omega, by omega, by omega, ?_⟩
    rw [itoa_neg k hk, show (48 - -((k % 10 : Nat) : Int)).toNat = 48 + k % 10 by omega, show (-(-((k / 10 : Nat) : Int))).toNat = k / 10 by omega]
    congr 1
    by_cases hb : k < 10
    · rw [dec_sm hb, if_neg (by omega), Nat.mod_eq_of_lt hb]; rfl
    · rw [dec_bg hb, if_pos (by omega)]
  refine AFn.vcX [] [3, 4, 5] Tryd.func16 rfl Tryd.mixed (by kernel_rfl) Tryd.ntmps16 Tryd.results16 (by simp) ?_
  push_cast
  refine ⟨fun h => ?_, fun h => ?_⟩
  · refine CallL.q (c23i n h h1) ?_
    push_cast
    unfold itoa
    rw [if_neg (by omega)]
  obtain ⟨q1, q2, q3, q4, hi⟩ := hq (by omega)
  intro hok
  refine AXc.region ?_
  refine AXl.pre [] 0 1 hok ?_
  push_cast
  refine AXl.qt rfl (Nat.le_of_ble_eq_true rfl) (Still.qt (s_remT (k := .i64) (m := n) (n := 10) _ _ _ _ rfl rfl (by decide))) ?_
  generalize n.tmod 10 = r at *
  refine AXl.pre [] 2 3 hok ?_
  push_cast
  refine ⟨by omega, by omega, ?_⟩
  refine AXl.qt rfl (Nat.le_of_ble_eq_true rfl) (Still.qt (s_byteStr rfl (by kernel_rfl) (by kernel_rfl))) ?_
  refine AXl.pre [] 6 1 hok ?_
  push_cast
  refine AXl.nil ?_
  push_cast
  intro hok
  refine AXc.region ?_
  refine AXl.pre [] 0 1 hok ?_
  push_cast
  refine AXl.qt rfl (Nat.le_of_ble_eq_true rfl) (Still.qt (s_quoT (m := n) (n := 10) _ _ _ _ rfl rfl (by decide) (inK_wrap (by rw [inK_i64]; omega)))) ?_
  refine AXl.pre [] 2 1 hok ?_
  push_cast
  refine AXl.nil ?_
  push_cast
  refine ⟨fun e => ?_, fun e => ?_⟩
  · intro hok
    refine AXc.region ?_
    refine AXl.pre [] 0 1 hok ?_
    push_cast
    refine AXl.qt rfl (Nat.le_of_ble_eq_true rfl) (Still.qt (s_quoT (m := n) (n := 10) _ _ _ _ rfl rfl (by decide) (inK_wrap (by rw [inK_i64]; omega)))) ?_
    generalize n.tdiv 10 = q at *
    refine AXl.pre [] 2 5 hok ?_
    push_cast
    refine ⟨by omega, ?_⟩
    refine CallL.q (c23i (-q) (by omega) (by omega)) ?_
    push_cast
    have := dec_le (-q).toNat (by omega)
    clear hok
    refine ⟨by omega, AXl.nil ?_⟩
    push_cast
    rw [hi, if_pos e]
    exact ⟨by omega, rfl⟩
  · rw [hi, if_neg (by omega)]
    rfl
theorem c14 (a b n : Int) (h0 : -9223372036854775808 ≤ a) (h1 : a < b) (h2 : 0 ≤ b) (h3 : b ≤ 9223372036854775807) (h4 : 0 ≤ n) (h5 : n ≤ 9223372036854775807) : AFn Tryd.prog Γ 14 [.c (.d (.int .i64 a)), .c (.d (.int .i64 b)), .c (.d (.int .i64 n))] [.d (.bool (decide (b - a ≤ n)))] := by
  refine AFn.vc [] Tryd.func14 rfl Tryd.mixed (by kernel_rfl) Tryd.ntmps14 Tryd.results14 (by simp) ?_
  push_cast
  refine ⟨fun e => ⟨fun e2 => ⟨by omega, by omega, ?_⟩, fun e2 => ?_⟩, fun e => by omega⟩
  · exact decide_eq_decide.2 (by omega)
  · exact (decide_eq_false (by omega)).symm
theorem c11 (b : Br) (h1 : b.hd.length ≤ 1000000) (h2 : b.ref.length ≤ 1000000) (h3 : -9223372036854775808 ≤ b.cnt) (h4 : b.cnt ≤ 9223372036854775807) : AFn Tryd.prog Γ 11 [.agg (b.ds.map C.d)] [.d (.str (printF b))] := by
  refine AFn.vc [] Tryd.func11 rfl Tryd.mixed (by kernel_rfl) Tryd.ntmps11 Tryd.results11 (by simp) ?_
  push_cast
  unfold printF
  refine ⟨fun e => ⟨by omega, by omega, by rw [if_pos e]⟩, fun e => ⟨by omega, ?_⟩⟩
  refine CallX.q (c16 b.cnt h3 h4) ?_
  push_cast
  have hi := itoa_length_le b.cnt h3 h4
  exact ⟨by omega, by omega, by rw [if_neg (by simp [e])]⟩
theorem c9 (l : List Br) (at_ b a : Int) (hl : l.length ≤ 2000000) (h0 : -9223372036854775808 ≤ at_) (h1 : at_ ≤ 9223372036854775807) (h2 : b ≤ 9223372036854775807) (h3 : a ≤ 9223372036854775807) : AFn Tryd.prog Γ 9 [.c (.bor 3 (l.map Br.ds)), .c (.d (.int .i64 at_)), .c (.d (.int .i64 b)), .c (.d (.int .i64 a))] [.d (.lst 3 ((pageF l at_ b a).map Br.ds))] := by
  refine AFn.vc [] Tryd.func9 rfl Tryd.mixed (by kernel_rfl) Tryd.ntmps9 Tryd.results9 (by simp) ?_
  push_cast
  refine LoopV.cntH Tryd.mixed [0, 1, 2, 3] l.length (fun k => [(9, .c (.own 0 (pgN (condP at_ b a) l k).length)), (10, .c (.d (.int .i64 k)))]) (fun k => [.row 29 3 ((pgN (condP at_ b a) l k).map Br.ds) (pgN (condP at_ b a) l k).length]) (fun _ => True) trivial ?_ (by push_cast; exact ⟨rfl, rfl, rfl⟩)
  intro k hk _
  push_cast
  refine ⟨fun h => ?_, fun h => ?_⟩
  · have hlt : k < l.length := by omega
    have m1 : 0 ≤ imax b 0 ∧ imax b 0 ≤ 9223372036854775807 := by unfold imax; split <;> omega
    have m2 : 0 ≤ imax a 0 ∧ imax a 0 ≤ 9223372036854775807 := by unfold imax; split <;> omega
    have hn := pgN_next (c := condP at_ b a) hlt
    have hb := pgN_len (condP at_ b a) l k
    have hc : condP at_ b a k = true ↔ ((k : Int) = at_ ∨ ((k : Int) < at_ ∧ at_ - k ≤ imax b 0) ∨ (at_ < (k : Int) ∧ k - at_ ≤ imax a 0)) := by unfold condP; simp
    have yes : ((k : Int) = at_ ∨ ((k : Int) < at_ ∧ at_ - k ≤ imax b 0) ∨ (at_ < (k : Int) ∧ k - at_ ≤ imax a 0)) → pgN (condP at_ b a) l (k + 1) = pgN (condP at_ b a) l k ++ [l[k]] := fun q => by rw [hn, if_pos (hc.2 q)]
    have no : ¬ ((k : Int) = at_ ∨ ((k : Int) < at_ ∧ at_ - k ≤ imax b 0) ∨ (at_ < (k : Int) ∧ k - at_ ≤ imax a 0)) → pgN (condP at_ b a) l (k + 1) = pgN (condP at_ b a) l k := fun q => by rw [hn, if_neg (fun z => q (hc.1 z))]
    repeat' (first | (intro _) | (refine And.intro ?_ ?_) | (refine Exists.intro hlt ?_) | omega | (refine CallL.q (c14 k at_ (imax b 0) (by omega) (by omega) (by omega) (by omega) (by omega) (by omega)) ?_; push_cast) | (refine CallL.q (c14 at_ k (imax a 0) (by omega) (by omega) (by omega) (by omega) (by omega) (by omega)) ?_; push_cast))
    all_goals first
      | omega
      | (rw [yes (by omega)]; simp [Br.ds]; done)
      | (rw [no (by omega)]; done)
      | trace_state
  · unfold pageF
    rw [show k = l.length by omega]
theorem c8n (l : List Br) (at_ b a : Int) (hl : l.length ≤ 2000000) (h0 : -9223372036854775808 ≤ at_) (h1 : at_ < 0) (h2 : b ≤ 9223372036854775807) (h3 : a ≤ 9223372036854775807) : AFn Tryd.prog Γ 8 [.c (.bor 3 (l.map Br.ds)), .c (.d (.int .i64 at_)), .c (.d (.int .i64 b)), .c (.d (.int .i64 a))] [.d (.lst 3 ((pageF l at_ b a).map Br.ds))] := by
  refine AFn.vc [] Tryd.func8 rfl Tryd.mixed (by kernel_rfl) Tryd.ntmps8 Tryd.results8 (by simp) ?_
  push_cast
  refine LoopV.nilrow 9 29 3 ?_
  push_cast
  refine LoopV.ofX [8] Tryd.mixed [1, 2, 3, 16, 17] (fun k => [(9, .c (.own 0 (pgN (condP at_ b a) l k).length)), (18, .c (.d (.int .i64 (k : Nat))))]) (fun k => [.row 29 3 ((pgN (condP at_ b a) l k).map Br.ds) (pgN (condP at_ b a) l k).length]) (fun k => k ≤ l.length) (fun k => l.length - k) 0 (Nat.zero_le _) (by push_cast; exact ⟨rfl, rfl, rfl⟩) ?_
  intro k hk
  push_cast
  refine ⟨fun h => ?_, fun h => ?_⟩
  · have hlt : k < l.length := by omega
    have m1 : 0 ≤ imax b 0 ∧ imax b 0 ≤ 9223372036854775807 := by unfold imax; split <;> omega
    have m2 : 0 ≤ imax a 0 ∧ imax a 0 ≤ 9223372036854775807 := by unfold imax; split <;> omega
    have hn := pgN_next (c := condP at_ b a) hlt
    have hb := pgN_len (condP at_ b a) l k
    have hc : condP at_ b a k = true ↔ ((k : Int) = at_ ∨ ((k : Int) < at_ ∧ at_ - k ≤ imax b 0) ∨ (at_ < (k : Int) ∧ k - at_ ≤ imax a 0)) := by unfold condP; simp
    have yes : ((k : Int) = at_ ∨ ((k : Int) < at_ ∧ at_ - k ≤ imax b 0) ∨ (at_ < (k : Int) ∧ k - at_ ≤ imax a 0)) → pgN (condP at_ b a) l (k + 1) = pgN (condP at_ b a) l k ++ [l[k]] := fun q => by rw [hn, if_pos (hc.2 q)]
    have no : ¬ ((k : Int) = at_ ∨ ((k : Int) < at_ ∧ at_ - k ≤ imax b 0) ∨ (at_ < (k : Int) ∧ k - at_ ≤ imax a 0)) → pgN (condP at_ b a) l (k + 1) = pgN (condP at_ b a) l k := fun q => by rw [hn, if_neg (fun z => q (hc.1 z))]
    refine ⟨hlt, fun e => by omega, fun _ => ⟨fun e => by omega, fun _ => ?_⟩⟩
    intro hok
    refine AXc.region ?_
    refine AXl.pre [] 0 7 hok ?_
    push_cast
    refine ⟨fun e => ?_, fun e => by omega⟩
    refine ⟨by omega, ?_⟩
    refine AXl.qt_guard (Nat.le_of_ble_eq_true rfl) rfl (by kernel_rfl) (Still.qt (s_conv (k := .i64) (k' := .u64) (m := at_) _ _ _ rfl ⟨_, rfl⟩ rfl (u64_low (by omega) h1))) ?_
    refine AXl.qt_guard (Nat.le_of_ble_eq_true rfl) rfl (by kernel_rfl) (Still.qt (s_subW (k := .u64) (m := k) (n := at_ + 18446744073709551616) (z := k - at_) _ _ _ _ rfl rfl ((u64_low (by omega) (by omega)).trans (by omega)))) ?_
    refine AXl.pre [] 9 5 hok ?_
    push_cast
    clear hok
    refine ⟨by omega, AXl.nil ?_⟩
    push_cast
    refine ⟨fun e2 => ⟨by omega, by omega, k + 1, ⟨by omega, by omega⟩, ⟨?_, by omega⟩, ?_, ?_⟩, fun e2 => ⟨by omega, k + 1, ⟨by omega, by omega⟩, ⟨?_, by omega⟩, ?_, ?_⟩⟩
    · rw [yes (by omega)]; simp
    · rw [yes (by omega)]; simp [Br.ds]
    · rw [yes (by omega)]; simp
    · rw [no (by omega)]
    · rw [no (by omega)]
    · rw [no (by omega)]
  · unfold pageF
    rw [show k = l.length by omega]
theorem c8a (l : List Br) (at_ b a : Int) (hl : l.length ≤ 2000000) (h0 : -9223372036854775808 ≤ at_) (h1 : at_ ≤ 9223372036854775807) (h2 : b ≤ 9223372036854775807) (h3 : a ≤ 9223372036854775807) : AFn Tryd.prog Γ 8 [.c (.bor 3 (l.map Br.ds)), .c (.d (.int .i64 at_)), .c (.d (.int .i64 b)), .c (.d (.int .i64 a))] [.d (.lst 3 ((pageF l at_ b a).map Br.ds))] := by
  by_cases h : 0 ≤ at_
  · exact c8 l at_ b a hl h h1 h2 h3
  · exact c8n l at_ b a hl h0 (by omega) h2 h3
end Go.Proofs

/- The statements on browse lists: Pages, Prints, Turns. No condition. -/
namespace Go.Fc
open Go Go.Ax Go.Tx
theorem pageF_len (l : List Br) (at_ b a : Int) : (pageF l at_ b a).length ≤ l.length := pgN_len _ _ _
theorem pgN_one {c : Nat → Bool} {l : List Br} {k : Nat} (hk : k < l.length) : ∀ n, (∀ j, j < n → (c j = true ↔ j = k)) → pgN c l n = if n ≤ k then [] else [l[k]]
  | 0, _ => by simp [pgN]
  | n + 1, h => by
    unfold pgN
    rw [pgN_one hk n fun j hj => h j (by omega)]
    by_cases hc : n = k
    · subst hc
      rw [if_pos ((h n (by omega)).2 rfl), if_pos (Nat.le_refl _), if_neg (by omega), drop_cons hk]
      rfl
    · rw [if_neg (fun e => hc ((h n (by omega)).1 e)), List.append_nil]
      by_cases h2 : n ≤ k
      · rw [if_pos h2, if_pos (by omega)]
      · rw [if_neg h2, if_neg (by omega)]
theorem pgN_all {c : Nat → Bool} {l : List Br} : ∀ n, n ≤ l.length → (∀ j, j < n → c j = true) → pgN c l n = l.take n
  | 0, _, _ => by simp [pgN]
  | n + 1, hn, h => by
    unfold pgN
    rw [pgN_all n (by omega) fun j hj => h j (by omega), if_pos (h n (by omega)), drop_cons (by omega), List.take_succ_cons, List.take_zero, List.take_append_getElem (by omega)]
theorem pgN_none {c : Nat → Bool} {l : List Br} : ∀ n, (∀ j, j < n → c j = false) → pgN c l n = []
  | 0, _ => rfl
  | n + 1, h => by
    unfold pgN
    rw [pgN_none n fun j hj => h j (by omega), h n (by omega)]
    rfl
theorem imax_0 (m : Int) : imax m 0 = if 0 ≤ m then m else 0 := by unfold imax; split <;> split <;> omega
theorem pageF_one {l : List Br} {k : Nat} {m : Int} (hk : k < l.length) (hm : 0 ≤ m) : pageF l k 0 (-m) = [l[k]] := by
  unfold pageF
  rw [pgN_one hk, if_neg (by omega)]
  intro j hj
  unfold condP
  rw [imax_0, imax_0]
  simp only [Bool.or_eq_true, decide_eq_true_eq]
  split <;> split <;> omega
theorem pageF_all {l : List Br} {m n : Int} (hn : (l.length : Int) ≤ n) : pageF l 0 m n = l := by
  unfold pageF
  rw [pgN_all _ (Nat.le_refl _), List.take_length]
  intro j hj
  unfold condP
  rw [imax_0, imax_0]
  simp only [Bool.or_eq_true, decide_eq_true_eq]
  split <;> split <;> omega
theorem pageF_end {l : List Br} {m : Int} : pageF l l.length 0 m = [] := by
  unfold pageF
  rw [pgN_none]
  intro j hj
  unfold condP
  rw [imax_0, imax_0]
  simp only [Bool.or_eq_false_iff, decide_eq_false_iff_not]
  split <;> split <;> omega
end Go.Fc
namespace Go.Proofs
open Go Go.Ax Go.Tx Go.Lib Go.RowKit Go.Fc Go.Pg
set_option maxRecDepth 100000
set_option maxHeartbeats 0
variable {Γ : List (Nat × List D)}
theorem c3 (hΓ : (0, stdD) ∈ Γ) (hp : (2, powD) ∈ Γ) (l : List Br) (at_ b a : Int) (h0 : -9223372036854775808 ≤ at_) (h1 : at_ ≤ 9223372036854775807) (h2 : b ≤ 9223372036854775807) (h3 : a ≤ 9223372036854775807) : AFn Tryd.prog Γ 3 [.c (.d (.lst 3 (l.map Br.ds))), .c (.d (.int .i64 at_)), .agg [.d (.int .i64 b), .d (.int .i64 a)]] [.d (.bool true)] := by
  refine AFn.vc [] Tryd.func3 rfl Tryd.mixed (by kernel_rfl) Tryd.ntmps3 Tryd.results3 (by simp) ?_
  push_cast
  refine ⟨fun h => ?_, fun h => ?_⟩
  · refine CallL.q (c6 hΓ hp) ?_
    push_cast
  · have hn := pageF_len l at_ b a
    refine CallX.q (c8a l at_ b a (by omega) h0 h1 h2 h3) ?_
    push_cast
    refine CallX.q (c9 l at_ b a (by omega) h0 h1 h2 h3) ?_
    push_cast
    refine CallX.q (c7 (pageF l at_ b a) (pageF l at_ b a) (by omega)) ?_
    push_cast
    refine CallX.q (c6 hΓ hp) ?_
    push_cast
theorem c4 (hΓ : (0, stdD) ∈ Γ) (hp : (2, powD) ∈ Γ) (b : Br) (h3 : -9223372036854775808 ≤ b.cnt) (h4 : b.cnt ≤ 9223372036854775807) : AFn Tryd.prog Γ 4 [.agg (b.ds.map C.d)] [.d (.bool true)] := by
  refine AFn.vc [] Tryd.func4 rfl Tryd.mixed (by kernel_rfl) Tryd.ntmps4 Tryd.results4 (by simp) ?_
  push_cast
  refine ⟨fun e1 => ⟨fun e2 => ?_, fun e2 => ?_⟩, fun e1 => ?_⟩
  · refine CallX.q (c10 hp b (by omega) (by omega) h3 h4) ?_
    push_cast
    refine CallX.q (c11 b (by omega) (by omega) h3 h4) ?_
    push_cast
    refine CallX.q (c6 hΓ hp) ?_
    push_cast
  · refine CallX.q (c6 hΓ hp) ?_
    push_cast
  · refine CallX.q (c6 hΓ hp) ?_
    push_cast
theorem c5 (hΓ : (0, stdD) ∈ Γ) (hp : (2, powD) ∈ Γ) (l : List Br) (m : Int) (h0 : 0 ≤ m) (h1 : m ≤ 255) : AFn Tryd.prog Γ 5 [.c (.d (.lst 3 (l.map Br.ds))), .c (.d (.int .u8 m))] [.d (.bool true)] := by
  refine AFn.vc [] Tryd.func5 rfl Tryd.mixed (by kernel_rfl) Tryd.ntmps5 Tryd.results5 (by simp) ?_
  push_cast
  refine ⟨fun h => ?_, fun h => ?_⟩
  · refine CallL.q (c6 hΓ hp) ?_
    push_cast
  · refine LoopV.cntH Tryd.mixed [0, 1, 13] l.length (fun k => [(5, .c (.own 0 k)), (14, .c (.d (.int .i64 k)))]) (fun k => [.row 29 3 ((l.take k).map Br.ds) k]) (fun _ => True) trivial ?_ (by push_cast; try exact ⟨rfl, rfl, rfl⟩)
    intro k hk _
    push_cast
    refine ⟨fun h => ?_, fun h => ?_⟩
    · have hlt : k < l.length := by omega
      have hp := c8a (Γ := Γ) l k 0 (-m) (by omega) (by omega) (by omega) (by omega) (by omega)
      rw [pageF_one hlt h0] at hp
      refine ⟨by omega, by omega, ?_⟩
      refine CallL.q hp ?_
      push_cast
      refine ⟨by omega, by omega, by omega, ?_⟩
      rw [← List.take_append_getElem hlt, List.map_append]
      rfl
    · obtain rfl : k = l.length := by omega
      rw [List.take_length]
      refine CallL.q (c7 l l (by omega)) ?_
      push_cast
      refine ⟨by omega, ?_⟩
      have ha := c8a (Γ := Γ) l 0 m (l.length + m) (by omega) (by omega) (by omega) (by omega) (by omega)
      rw [pageF_all (by omega)] at ha
      repeat (refine ⟨by omega, ?_⟩)
      refine CallL.q ha ?_
      push_cast
      refine CallL.q (c7 l l (by omega)) ?_
      push_cast
      have he := c8a (Γ := Γ) l l.length 0 m (by omega) (by omega) (by omega) (by omega) (by omega)
      rw [pageF_end] at he
      repeat (refine ⟨by omega, ?_⟩)
      refine CallL.q he ?_
      push_cast
      refine CallL.q (c6 hΓ hp) ?_
      push_cast
end Go.Proofs
