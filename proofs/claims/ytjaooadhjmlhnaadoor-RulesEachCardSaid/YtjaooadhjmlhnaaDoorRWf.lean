/- Part of a proof about this program; no condition of its own. -/
import Derived.Test.YtjaooadhjmlhnaaDoorRDd
import Derived.Test.YtjaooadhjmlhnaaDoorRWc
import Derived.Test.YtjaooadhjmlhnaaDoorProg
set_option linter.all false
namespace Go.Proofs
open Go Go.Ax Go.Rl
theorem mixed_f : Tryd.prog.follows .mixedOrders = true := by kernel_rfl
theorem AXl.nm_f0 {P : Program} {pm : Pm} {ops : Array Oper} {rest : List Oper} {st st' : St} {K : St → Prop} (hk : AXl P pm ops rest st' K) (he : st = st' := by first | (simp only [St.put, putE, U, del, lk, ev, cAV, lkG, rsAV, rvAV, ↓reduceIte, Nat.reduceEqDiff, Nat.reduceAdd, Nat.reduceMul, List.length_map, List.length_cons, List.length_nil, List.getElem_map, Int.toNat_natCast, List.cons_append, List.nil_append, List.set_cons_zero, List.set_cons_succ, splice, List.take_succ_cons, List.take_zero, List.drop_succ_cons, List.drop_zero, Nat.zero_add, Nat.add_zero, List.map_cons, List.map_nil, List.take_nil, List.drop_nil, List.append_nil]; done) | (simp only [St.put, putE, U, del, lk, ev, cAV, lkG, rsAV, rvAV, ↓reduceIte, Nat.reduceEqDiff, Nat.reduceAdd, Nat.reduceMul, List.length_map, List.length_cons, List.length_nil, List.getElem_map, Int.toNat_natCast, List.cons_append, List.nil_append, List.set_cons_zero, List.set_cons_succ, splice, List.take_succ_cons, List.take_zero, List.drop_succ_cons, List.drop_zero, Nat.zero_add, Nat.add_zero, List.map_cons, List.map_nil, List.take_nil, List.drop_nil, List.append_nil]; rfl) | rfl) : AXl P pm ops rest st K := he ▸ hk
theorem AXd.nm_f0 {P : Program} {pm : Pm} {h : List LB} {ops : Array Oper} {pre : List Oper} {ρ ρ' : List (Nat × AV)} {Kd : List (Nat × AV) → Prop} (hk : AXd P pm h ops pre ρ' Kd) (he : ρ = ρ' := by first | (simp only [St.put, putE, U, del, lk, ev, cAV, lkG, rsAV, rvAV, ↓reduceIte, Nat.reduceEqDiff, Nat.reduceAdd, Nat.reduceMul, List.length_map, List.length_cons, List.length_nil, List.getElem_map, Int.toNat_natCast, List.cons_append, List.nil_append, List.set_cons_zero, List.set_cons_succ, splice, List.take_succ_cons, List.take_zero, List.drop_succ_cons, List.drop_zero, Nat.zero_add, Nat.add_zero, List.map_cons, List.map_nil, List.take_nil, List.drop_nil, List.append_nil]; done) | (simp only [St.put, putE, U, del, lk, ev, cAV, lkG, rsAV, rvAV, ↓reduceIte, Nat.reduceEqDiff, Nat.reduceAdd, Nat.reduceMul, List.length_map, List.length_cons, List.length_nil, List.getElem_map, Int.toNat_natCast, List.cons_append, List.nil_append, List.set_cons_zero, List.set_cons_succ, splice, List.take_succ_cons, List.take_zero, List.drop_succ_cons, List.drop_zero, Nat.zero_add, Nat.add_zero, List.map_cons, List.map_nil, List.take_nil, List.drop_nil, List.append_nil]; rfl) | rfl) : AXd P pm h ops pre ρ Kd := he ▸ hk
/-- The contract of library libraryref09.Tag. -/
theorem c23 {Γ : List (Nat × List D)} (t : Str) : AFn Tryd.prog Γ 23 [.c (.d (.str t))] [.d (.bool (tagB t))] := by
  refine AFn.of_body0 (n := 23) (res := [.tmp 2]) Tryd.func23 (by kernel_rfl) rfl Tryd.ntmps23 (by rw [Tryd.results23]) (by simp) ?_
  simp only [envOf, Nat.reduceAdd]
  refine AXc.seq fun K1 hK1 => ?_
  refine AXc.region' fun K2 hK2 => ?_
  refine AXl.qt rfl (by decide : (2:Nat) < 23) (Still.qt (s_assign _)) ?_
  refine AXl.nm_f0 ?_
  refine AXl.nil ?_
  refine hK2 _ ?_
  clear hK2 K2
  refine Ethen.n ?_
  refine hK1 _ ?_
  clear hK1 K1
  refine AXc.seq fun K3 hK3 => ?_
  refine AXc.seq fun K4 hK4 => ?_
  refine AXc.region' fun K5 hK5 => ?_
  refine AXl.qt rfl (by decide : (4:Nat) < 23) (Still.qt (s_move _)) ?_
  refine AXl.qt rfl (by decide : (5:Nat) < 23) (Still.qt (s_len_str _ _ Tryd.underlying9 rfl)) ?_
  refine AXl.qt rfl (by decide : (6:Nat) < 23) (Still.qt (s_icmp _ _ _ _ _ rfl rfl rfl)) ?_
  refine AXl.nm_f0 ?_
  refine AXl.nil ?_
  refine hK5 _ ?_
  clear hK5 K5
  refine Ethen.n ?_
  refine hK4 _ ?_
  clear hK4 K4
  refine AXc.cond rfl (fun hc6 => ?_) (fun hc6 => ?_)
  · try simp only [decide_eq_true_eq, decide_eq_false_iff_not, Bool.not_eq_true', Bool.not_eq_false', Int.not_lt, Int.not_le, ne_eq, Decidable.not_not, bne_iff_ne, beq_iff_eq, Bool.and_eq_true, Bool.or_eq_true, Bool.and_eq_false_iff, Bool.or_eq_false_iff, Bool.not_not, Ax.u8eq] at hc6
    refine AXc.seq fun K7 hK7 => ?_
    refine AXc.region' fun K8 hK8 => ?_
    refine AXl.qt rfl (by decide : (2:Nat) < 23) (Still.qt (s_assign _)) ?_
    refine AXl.nm_f0 ?_
    refine AXl.nil ?_
    refine hK8 _ ?_
    clear hK8 K8
    refine Ethen.n ?_
    refine hK7 _ ?_
    clear hK7 K7
    refine AXc.ret ?_
    refine Ethen.r ?_
    clear hK3 K3
    refine Fin.ret rfl rfl ?_
    refine congrArg (fun x => [RV.d (.bool x)]) ?_
    first
      | (unfold tagB; rw [decide_eq_false (by omega)]; rfl)
      | (symm; unfold tagB
         have : t.all digB = false := by
           rw [List.all_eq_false]
           exact ⟨t[k], List.getElem_mem _, by simp only [digB, Bool.not_eq_true, Bool.not_eq_false', Bool.or_eq_true, decide_eq_true_eq]; omega⟩
         rw [this, Bool.false_and, Bool.and_false])
      | (have : t.all digB = true := by
           rw [List.all_eq_true]; intro x hx
           obtain ⟨j, hj, rfl⟩ := List.getElem_of_mem hx
           exact hinv j hj (by omega)
         unfold tagB; rw [this, decide_eq_true (by omega)]; rfl)
  · try simp only [decide_eq_true_eq, decide_eq_false_iff_not, Bool.not_eq_true', Bool.not_eq_false', Int.not_lt, Int.not_le, ne_eq, Decidable.not_not, bne_iff_ne, beq_iff_eq, Bool.and_eq_true, Bool.or_eq_true, Bool.and_eq_false_iff, Bool.or_eq_false_iff, Bool.not_not, Ax.u8eq] at hc6
    refine AXc.skip ?_
    refine Ethen.n ?_
    refine hK3 _ ?_
    clear hK3 K3
    refine AXc.seq fun K9 hK9 => ?_
    refine AXc.seq fun K10 hK10 => ?_
    refine AXc.region' fun K11 hK11 => ?_
    refine AXl.qt rfl (by decide : (3:Nat) < 23) (Still.qt (s_assign _)) ?_
    refine AXl.nm_f0 ?_
    refine AXl.nil ?_
    refine hK11 _ ?_
    clear hK11 K11
    refine Ethen.n ?_
    refine hK10 _ ?_
    clear hK10 K10
    refine AXc.block ?_
    refine AXc.loop (S := Nat) (fun k => ⟨[(0, .c (.d (.str t))), (3, .c (.d (.int .i64 k)))], []⟩) (fun k => k ≤ 3 ∧ ∀ j, (h : j < t.length) → j < k → digB t[j] = true) (fun k => 3 - k) 0 ⟨by omega, by omega⟩ (by refine ⟨?_, ?_, ?_, ?_, ?_, ?_⟩ <;> (simp [subE, lk, AV.low, C.low, LB.low] <;> fail)) ?_
    rintro k ⟨hk0, hinv⟩
    refine AXc.seq fun K12 hK12 => ?_
    refine AXc.seq fun K13 hK13 => ?_
    refine AXc.region' fun K14 hK14 => ?_
    refine AXl.qt rfl (by decide : (7:Nat) < 23) (Still.qt (s_move _)) ?_
    refine AXl.qt rfl (by decide : (8:Nat) < 23) (Still.qt (s_icmp _ _ _ _ _ rfl rfl rfl)) ?_
    refine AXl.nm_f0 ?_
    refine AXl.nil ?_
    refine hK14 _ ?_
    clear hK14 K14
    refine Ethen.n ?_
    refine hK13 _ ?_
    clear hK13 K13
    refine AXc.cond rfl (fun hc15 => ?_) (fun hc15 => ?_)
    · try simp only [decide_eq_true_eq, decide_eq_false_iff_not, Bool.not_eq_true', Bool.not_eq_false', Int.not_lt, Int.not_le, ne_eq, Decidable.not_not, bne_iff_ne, beq_iff_eq, Bool.and_eq_true, Bool.or_eq_true, Bool.and_eq_false_iff, Bool.or_eq_false_iff, Bool.not_not, Ax.u8eq] at hc15
      have hk : k < t.length := by omega
      refine AXc.skip ?_
      refine Ethen.n ?_
      refine hK12 _ ?_
      clear hK12 K12
      refine AXc.seq fun K16 hK16 => ?_
      refine AXc.block ?_
      refine AXc.seq fun K17 hK17 => ?_
      refine AXc.region' fun K18 hK18 => ?_
      refine AXl.qt rfl (by decide : (11:Nat) < 23) (Still.qt (s_move _)) ?_
      refine AXl.qt rfl (by decide : (12:Nat) < 23) (Still.qt (s_move _)) ?_
      refine AXl.nm_f0 ?_
      refine AXl.qt rfl (by decide : (13:Nat) < 23) (Still.qt (s_index_str _ _ _ Tryd.underlying9 rfl rfl (by first | omega | (simp only [List.length_map, List.length_cons, List.length_nil, List.length_append, List.length_take, List.length_drop]; omega)) (List.getElem?_eq_getElem (by first | omega | (simp only [List.length_map, List.length_cons, List.length_nil, List.length_append, List.length_take, List.length_drop]; omega))))) ?_
      refine AXl.qt rfl (by decide : (14:Nat) < 23) (Still.qt (s_icmp _ _ _ _ _ rfl rfl rfl)) ?_
      refine AXl.qt rfl (by decide : (15:Nat) < 23) (Still.qt (s_move _)) ?_
      refine AXl.nm_f0 ?_
      refine AXl.split 15 _ rfl (fun hg19 => ?_) (fun hg19 => ?_)
      · try simp only [decide_eq_true_eq, decide_eq_false_iff_not, Bool.not_eq_true', Bool.not_eq_false', Int.not_lt, Int.not_le, ne_eq, Decidable.not_not, bne_iff_ne, beq_iff_eq, Bool.and_eq_true, Bool.or_eq_true, Bool.and_eq_false_iff, Bool.or_eq_false_iff, Bool.not_not, Ax.u8eq] at hg19
        simp only [del, ↓reduceIte, Nat.reduceEqDiff]
        refine AXl.skip_guard (by decide : (16:Nat) < 23) rfl (by kernel_rfl) ?_
        refine AXl.skip_guard (by decide : (17:Nat) < 23) rfl (by kernel_rfl) ?_
        refine AXl.skip_guard (by decide : (18:Nat) < 23) rfl (by kernel_rfl) ?_
        refine AXl.skip_guard (by decide : (19:Nat) < 23) rfl (by kernel_rfl) ?_
        refine AXl.qt rfl (by decide : (20:Nat) < 23) (Still.qt (s_pick_t _ _ _ rfl)) ?_
        refine AXl.nm_f0 ?_
        refine AXl.nil ?_
        refine hK18 _ ?_
        clear hK18 K18
        refine Ethen.n ?_
        refine hK17 _ ?_
        clear hK17 K17
        refine AXc.cond_t rfl ?_
        refine AXc.seq fun K20 hK20 => ?_
        refine AXc.region' fun K21 hK21 => ?_
        refine AXl.qt rfl (by decide : (2:Nat) < 23) (Still.qt (s_assign _)) ?_
        refine AXl.nm_f0 ?_
        refine AXl.nil ?_
        refine hK21 _ ?_
        clear hK21 K21
        refine Ethen.n ?_
        refine hK20 _ ?_
        clear hK20 K20
        refine AXc.ret ?_
        refine EinBlock.r ?_
        refine Ethen.r ?_
        clear hK16 K16
        refine Ethen.r ?_
        refine EinBlock.r ?_
        refine Ethen.r ?_
        clear hK9 K9
        refine Fin.ret rfl rfl ?_
        refine congrArg (fun x => [RV.d (.bool x)]) ?_
        first
          | (unfold tagB; rw [decide_eq_false (by omega)]; rfl)
          | (symm; unfold tagB
             have : t.all digB = false := by
               rw [List.all_eq_false]
               exact ⟨t[k], List.getElem_mem _, by simp only [digB, Bool.not_eq_true, Bool.not_eq_false', Bool.or_eq_true, decide_eq_true_eq]; omega⟩
             rw [this, Bool.false_and, Bool.and_false])
          | (have : t.all digB = true := by
               rw [List.all_eq_true]; intro x hx
               obtain ⟨j, hj, rfl⟩ := List.getElem_of_mem hx
               exact hinv j hj (by omega)
             unfold tagB; rw [this, decide_eq_true (by omega)]; rfl)
      · try simp only [decide_eq_true_eq, decide_eq_false_iff_not, Bool.not_eq_true', Bool.not_eq_false', Int.not_lt, Int.not_le, ne_eq, Decidable.not_not, bne_iff_ne, beq_iff_eq, Bool.and_eq_true, Bool.or_eq_true, Bool.and_eq_false_iff, Bool.or_eq_false_iff, Bool.not_not, Ax.u8eq] at hg19
        simp only [del, ↓reduceIte, Nat.reduceEqDiff]
        refine AXl.qt_guard (by decide : (16:Nat) < 23) rfl (by kernel_rfl) (Still.qt (s_move _)) ?_
        refine AXl.qt_guard (by decide : (17:Nat) < 23) rfl (by kernel_rfl) (Still.qt (s_move _)) ?_
        refine AXl.nm_f0 ?_
        refine AXl.qt_guard (by decide : (18:Nat) < 23) rfl (by kernel_rfl) (Still.qt (s_index_str _ _ _ Tryd.underlying9 rfl rfl (by first | omega | (simp only [List.length_map, List.length_cons, List.length_nil, List.length_append, List.length_take, List.length_drop]; omega)) (List.getElem?_eq_getElem (by first | omega | (simp only [List.length_map, List.length_cons, List.length_nil, List.length_append, List.length_take, List.length_drop]; omega))))) ?_
        refine AXl.qt_guard (by decide : (19:Nat) < 23) rfl (by kernel_rfl) (Still.qt (s_icmp _ _ _ _ _ rfl rfl rfl)) ?_
        refine AXl.qt rfl (by decide : (20:Nat) < 23) (Still.qt (s_pick_f _ _ _ rfl)) ?_
        refine AXl.nm_f0 ?_
        refine AXl.nil ?_
        refine hK18 _ ?_
        clear hK18 K18
        refine Ethen.n ?_
        refine hK17 _ ?_
        clear hK17 K17
        refine AXc.cond rfl (fun hc22 => ?_) (fun hc22 => ?_)
        · try simp only [decide_eq_true_eq, decide_eq_false_iff_not, Bool.not_eq_true', Bool.not_eq_false', Int.not_lt, Int.not_le, ne_eq, Decidable.not_not, bne_iff_ne, beq_iff_eq, Bool.and_eq_true, Bool.or_eq_true, Bool.and_eq_false_iff, Bool.or_eq_false_iff, Bool.not_not, Ax.u8eq] at hc22
          refine AXc.seq fun K23 hK23 => ?_
          refine AXc.region' fun K24 hK24 => ?_
          refine AXl.qt rfl (by decide : (2:Nat) < 23) (Still.qt (s_assign _)) ?_
          refine AXl.nm_f0 ?_
          refine AXl.nil ?_
          refine hK24 _ ?_
          clear hK24 K24
          refine Ethen.n ?_
          refine hK23 _ ?_
          clear hK23 K23
          refine AXc.ret ?_
          refine EinBlock.r ?_
          refine Ethen.r ?_
          clear hK16 K16
          refine Ethen.r ?_
          refine EinBlock.r ?_
          refine Ethen.r ?_
          clear hK9 K9
          refine Fin.ret rfl rfl ?_
          refine congrArg (fun x => [RV.d (.bool x)]) ?_
          first
            | (unfold tagB; rw [decide_eq_false (by omega)]; rfl)
            | (symm; unfold tagB
               have : t.all digB = false := by
                 rw [List.all_eq_false]
                 exact ⟨t[k], List.getElem_mem _, by simp only [digB, Bool.not_eq_true, Bool.not_eq_false', Bool.or_eq_true, decide_eq_true_eq]; omega⟩
               rw [this, Bool.false_and, Bool.and_false])
            | (have : t.all digB = true := by
                 rw [List.all_eq_true]; intro x hx
                 obtain ⟨j, hj, rfl⟩ := List.getElem_of_mem hx
                 exact hinv j hj (by omega)
               unfold tagB; rw [this, decide_eq_true (by omega)]; rfl)
        · try simp only [decide_eq_true_eq, decide_eq_false_iff_not, Bool.not_eq_true', Bool.not_eq_false', Int.not_lt, Int.not_le, ne_eq, Decidable.not_not, bne_iff_ne, beq_iff_eq, Bool.and_eq_true, Bool.or_eq_true, Bool.and_eq_false_iff, Bool.or_eq_false_iff, Bool.not_not, Ax.u8eq] at hc22
          refine AXc.skip ?_
          refine EinBlock.n ?_
          refine Ethen.n ?_
          refine hK16 _ ?_
          clear hK16 K16
          refine AXc.region' fun K25 hK25 => ?_
          refine AXl.qt rfl (by decide : (9:Nat) < 23) (Still.qt (s_move _)) ?_
          refine AXl.qt rfl (by decide : (10:Nat) < 23) (Still.qt (s_iar _ _ _ _ _ rfl rfl rfl (IntWalk.i64_in _ ⟨(by first | omega | (simp only [List.length_map, List.length_cons, List.length_nil, List.length_append, List.length_take, List.length_drop]; omega)), (by first | omega | (simp only [List.length_map, List.length_cons, List.length_nil, List.length_append, List.length_take, List.length_drop]; omega))⟩))) ?_
          refine AXl.qt rfl (by decide : (3:Nat) < 23) (Still.qt (s_assign _)) ?_
          refine AXl.nm_f0 ?_
          refine AXl.nil ?_
          refine hK25 _ ?_
          clear hK25 K25
          refine Ethen.n ?_
          clear hK9 K9
          refine ⟨k + 1, ⟨by omega, fun j h hj => ?_⟩, by omega, (by refine ⟨?_, ?_, ?_, ?_, ?_, ?_⟩ <;> (simp [subE, lk, AV.low, C.low, LB.low] <;> fail))⟩
          rcases Nat.lt_or_eq_of_le (Nat.lt_succ_iff.1 hj) with e | e
          · exact hinv j h e
          · subst e; simp only [digB, Bool.not_eq_true', Bool.or_eq_false_iff, decide_eq_false_iff_not]; omega
    · try simp only [decide_eq_true_eq, decide_eq_false_iff_not, Bool.not_eq_true', Bool.not_eq_false', Int.not_lt, Int.not_le, ne_eq, Decidable.not_not, bne_iff_ne, beq_iff_eq, Bool.and_eq_true, Bool.or_eq_true, Bool.and_eq_false_iff, Bool.or_eq_false_iff, Bool.not_not, Ax.u8eq] at hc15
      refine AXc.exit ?_
      refine Ethen.e ?_
      clear hK12 K12
      refine Ethen.e ?_
      refine EinBlock.hit ?_
      refine Ethen.n ?_
      refine hK9 _ ?_
      clear hK9 K9
      refine AXc.seq fun K26 hK26 => ?_
      refine AXc.region' fun K27 hK27 => ?_
      refine AXl.qt rfl (by decide : (21:Nat) < 23) (Still.qt (s_move _)) ?_
      refine AXl.qt rfl (by decide : (22:Nat) < 23) (Still.qt (s_scmp _ _ _ _ _ rfl rfl rfl)) ?_
      refine AXl.qt rfl (by decide : (2:Nat) < 23) (Still.qt (s_assign _)) ?_
      refine AXl.nm_f0 ?_
      refine AXl.nil ?_
      refine hK27 _ ?_
      clear hK27 K27
      refine Ethen.n ?_
      refine hK26 _ ?_
      clear hK26 K26
      refine AXc.ret ?_
      refine Fin.ret rfl rfl ?_
      refine congrArg (fun x => [RV.d (.bool x)]) ?_
      first
        | (unfold tagB; rw [decide_eq_false (by omega)]; rfl)
        | (symm; unfold tagB
           have : t.all digB = false := by
             rw [List.all_eq_false]
             exact ⟨t[k], List.getElem_mem _, by simp only [digB, Bool.not_eq_true, Bool.not_eq_false', Bool.or_eq_true, decide_eq_true_eq]; omega⟩
           rw [this, Bool.false_and, Bool.and_false])
        | (have : t.all digB = true := by
             rw [List.all_eq_true]; intro x hx
             obtain ⟨j, hj, rfl⟩ := List.getElem_of_mem hx
             exact hinv j hj (by omega)
           unfold tagB; rw [this, decide_eq_true (by omega)]; rfl)
set_option maxHeartbeats 1600000 in
/-- The contract of library libraryref09.Codes. -/
theorem c24 {Γ : List (Nat × List D)} (t : Str) (hl : t.length ≤ 1000000) : AFn Tryd.prog Γ 24 [.c (.d (.str t))] [.d (.bool (codesB t))] := by
  refine AFn.of_body0 (n := 47) (res := [.tmp 2]) Tryd.func24 (by kernel_rfl) rfl Tryd.ntmps24 (by rw [Tryd.results24]) (by simp) ?_
  simp only [envOf, Nat.reduceAdd]
  refine AXc.seq fun K1 hK1 => ?_
  refine AXc.region' fun K2 hK2 => ?_
  refine AXl.qt rfl (by decide : (2:Nat) < 47) (Still.qt (s_assign _)) ?_
  refine AXl.nm_f0 ?_
  refine AXl.nil ?_
  refine hK2 _ ?_
  clear hK2 K2
  refine Ethen.n ?_
  refine hK1 _ ?_
  clear hK1 K1
  refine AXc.seq fun K3 hK3 => ?_
  refine AXc.seq fun K4 hK4 => ?_
  refine AXc.region' fun K5 hK5 => ?_
  refine AXl.qt rfl (by decide : (3:Nat) < 47) (Still.qt (s_assign _)) ?_
  refine AXl.nm_f0 ?_
  refine AXl.nil ?_
  refine hK5 _ ?_
  clear hK5 K5
  refine Ethen.n ?_
  refine hK4 _ ?_
  clear hK4 K4
  refine AXc.block ?_
  refine AXc.loop (S := Nat) (fun k => ⟨[(0, .c (.d (.str t))), (3, .c (.d (.int .i64 k)))], []⟩) (fun k => k ≤ t.length ∧ ∀ j, j < k → codeAt t j = true) (fun k => t.length - k) 0 ⟨by omega, by omega⟩ (by refine ⟨?_, ?_, ?_, ?_, ?_, ?_⟩ <;> (simp [subE, lk, AV.low, C.low, LB.low] <;> fail)) ?_
  rintro k ⟨hk0, hinv⟩
  refine AXc.seq fun K6 hK6 => ?_
  refine AXc.seq fun K7 hK7 => ?_
  refine AXc.region' fun K8 hK8 => ?_
  refine AXl.qt rfl (by decide : (4:Nat) < 47) (Still.qt (s_move _)) ?_
  refine AXl.qt rfl (by decide : (5:Nat) < 47) (Still.qt (s_move _)) ?_
  refine AXl.qt rfl (by decide : (6:Nat) < 47) (Still.qt (s_len_str _ _ Tryd.underlying9 rfl)) ?_
  refine AXl.qt rfl (by decide : (7:Nat) < 47) (Still.qt (s_icmp _ _ _ _ _ rfl rfl rfl)) ?_
  refine AXl.nm_f0 ?_
  refine AXl.nil ?_
  refine hK8 _ ?_
  clear hK8 K8
  refine Ethen.n ?_
  refine hK7 _ ?_
  clear hK7 K7
  refine AXc.cond rfl (fun hc9 => ?_) (fun hc9 => ?_)
  · try simp only [decide_eq_true_eq, decide_eq_false_iff_not, Bool.not_eq_true', Bool.not_eq_false', Int.not_lt, Int.not_le, ne_eq, Decidable.not_not, bne_iff_ne, beq_iff_eq, Bool.and_eq_true, Bool.or_eq_true, Bool.and_eq_false_iff, Bool.or_eq_false_iff, Bool.not_not, Ax.u8eq] at hc9
    have hk : k < t.length := by omega
    refine AXc.skip ?_
    refine Ethen.n ?_
    refine hK6 _ ?_
    clear hK6 K6
    refine AXc.seq fun K10 hK10 => ?_
    refine AXc.block ?_
    refine AXc.seq fun K11 hK11 => ?_
    refine AXc.draw' mixed_f 37 (by kernel_rfl) fun K12 hK12 => ?_
    simp only [List.take_succ_cons, List.take_zero, List.take_nil, List.drop_succ_cons, List.drop_zero, List.drop_nil]
    refine AXd.op rfl (Still.qt (s_move _)) ?_
    refine AXd.op rfl (Still.qt (s_move _)) ?_
    refine AXd.nm_f0 ?_
    refine AXd.op rfl (Still.qt (s_index_str _ _ _ Tryd.underlying9 rfl rfl (by first | omega | (simp only [List.length_map, List.length_cons, List.length_nil, List.length_append, List.length_take, List.length_drop]; omega)) (List.getElem?_eq_getElem (by first | omega | (simp only [List.length_map, List.length_cons, List.length_nil, List.length_append, List.length_take, List.length_drop]; omega))))) ?_
    refine AXd.op rfl (Still.qt (s_icmp _ _ _ _ _ rfl rfl rfl)) ?_
    refine AXd.op rfl (Still.qt (s_move _)) ?_
    refine AXd.nm_f0 ?_
    refine AXd.split 14 _ rfl (fun hg13 => ?_) (fun hg13 => ?_)
    · try simp only [decide_eq_true_eq, decide_eq_false_iff_not, Bool.not_eq_true', Bool.not_eq_false', Int.not_lt, Int.not_le, ne_eq, Decidable.not_not, bne_iff_ne, beq_iff_eq, Bool.and_eq_true, Bool.or_eq_true, Bool.and_eq_false_iff, Bool.or_eq_false_iff, Bool.not_not, Ax.u8eq] at hg13
      simp only [del, ↓reduceIte, Nat.reduceEqDiff]
      refine AXd.op rfl (Still.qt (s_move _)) ?_
      refine AXd.op rfl (Still.qt (s_move _)) ?_
      refine AXd.nm_f0 ?_
      refine AXd.op rfl (Still.qt (s_index_str _ _ _ Tryd.underlying9 rfl rfl (by first | omega | (simp only [List.length_map, List.length_cons, List.length_nil, List.length_append, List.length_take, List.length_drop]; omega)) (List.getElem?_eq_getElem (by first | omega | (simp only [List.length_map, List.length_cons, List.length_nil, List.length_append, List.length_take, List.length_drop]; omega))))) ?_
      refine AXd.op rfl (Still.qt (s_icmp _ _ _ _ _ rfl rfl rfl)) ?_
      refine AXd.op rfl (Still.qt (s_pick_t _ _ _ rfl)) ?_
      refine AXd.op rfl (Still.qt (s_move _)) ?_
      refine AXd.nm_f0 ?_
      refine AXd.split 20 _ rfl (fun hg14 => ?_) (fun hg14 => ?_)
      · try simp only [decide_eq_true_eq, decide_eq_false_iff_not, Bool.not_eq_true', Bool.not_eq_false', Int.not_lt, Int.not_le, ne_eq, Decidable.not_not, bne_iff_ne, beq_iff_eq, Bool.and_eq_true, Bool.or_eq_true, Bool.and_eq_false_iff, Bool.or_eq_false_iff, Bool.not_not, Ax.u8eq] at hg14
        simp only [del, ↓reduceIte, Nat.reduceEqDiff]
        refine AXd.skip rfl ?_
        refine AXd.skip rfl ?_
        refine AXd.skip rfl ?_
        refine AXd.skip rfl ?_
        refine AXd.skip rfl ?_
        refine AXd.skip rfl ?_
        refine AXd.skip rfl ?_
        refine AXd.skip rfl ?_
        refine AXd.skip rfl ?_
        refine AXd.skip rfl ?_
        refine AXd.op rfl (Still.qt (s_pick_t _ _ _ rfl)) ?_
        refine AXd.op rfl (Still.qt (s_not _ _ rfl)) ?_
        refine AXd.nm_f0 ?_
        refine AXd.op rfl (Still.qt (s_move _)) ?_
        refine AXd.op rfl (Still.qt (s_move _)) ?_
        refine AXd.op rfl (Still.qt (s_icmp _ _ _ _ _ rfl rfl rfl)) ?_
        refine AXd.op rfl (Still.qt (s_move _)) ?_
        refine AXd.nm_f0 ?_
        refine AXd.split 36 _ rfl (fun hg15 => ?_) (fun hg15 => ?_)
        · try simp only [decide_eq_true_eq, decide_eq_false_iff_not, Bool.not_eq_true', Bool.not_eq_false', Int.not_lt, Int.not_le, ne_eq, Decidable.not_not, bne_iff_ne, beq_iff_eq, Bool.and_eq_true, Bool.or_eq_true, Bool.and_eq_false_iff, Bool.or_eq_false_iff, Bool.not_not, Ax.u8eq] at hg15
          simp only [del, ↓reduceIte, Nat.reduceEqDiff]
          refine AXd.op rfl (Still.qt (s_move _)) ?_
          refine AXd.op rfl (Still.qt (s_move _)) ?_
          refine AXd.nm_f0 ?_
          refine AXd.op rfl (Still.qt (s_index_str _ _ _ Tryd.underlying9 rfl rfl (by first | omega | (simp only [List.length_map, List.length_cons, List.length_nil, List.length_append, List.length_take, List.length_drop]; omega)) (List.getElem?_eq_getElem (by first | omega | (simp only [List.length_map, List.length_cons, List.length_nil, List.length_append, List.length_take, List.length_drop]; omega))))) ?_
          refine AXd.op rfl (Still.qt (s_move _)) ?_
          refine AXd.op rfl (Still.qt (s_move _)) ?_
          refine AXd.op rfl (Still.qt (s_iar _ _ _ _ _ rfl rfl rfl (IntWalk.i64_in _ ⟨(by first | omega | (simp only [List.length_map, List.length_cons, List.length_nil, List.length_append, List.length_take, List.length_drop]; omega)), (by first | omega | (simp only [List.length_map, List.length_cons, List.length_nil, List.length_append, List.length_take, List.length_drop]; omega))⟩))) ?_
          refine AXd.nm_f0 ?_
          refine AXd.op rfl (Still.qt (s_index_str _ _ _ Tryd.underlying9 rfl rfl (by first | omega | (simp only [List.length_map, List.length_cons, List.length_nil, List.length_append, List.length_take, List.length_drop]; omega)) (List.getElem?_eq_getElem (by first | omega | (simp only [List.length_map, List.length_cons, List.length_nil, List.length_append, List.length_take, List.length_drop]; omega))))) ?_
          refine AXd.op rfl (Still.qt (s_icmp _ _ _ _ _ rfl rfl rfl)) ?_
          refine AXd.op rfl (Still.qt (s_pick_t _ _ _ rfl)) ?_
          refine AXd.op rfl (Still.qt (s_pick_f _ _ _ rfl)) ?_
          refine AXd.nm_f0 ?_
          refine AXd.nil ?_
          refine AXl.nil ?_
          refine hK12 _ ?_
          clear hK12 K12
          refine Ethen.n ?_
          refine hK11 _ ?_
          clear hK11 K11
          refine AXc.cond rfl (fun hc16 => ?_) (fun hc16 => ?_)
          · try simp only [decide_eq_true_eq, decide_eq_false_iff_not, Bool.not_eq_true', Bool.not_eq_false', Int.not_lt, Int.not_le, ne_eq, Decidable.not_not, bne_iff_ne, beq_iff_eq, Bool.and_eq_true, Bool.or_eq_true, Bool.and_eq_false_iff, Bool.or_eq_false_iff, Bool.not_not, Ax.u8eq] at hc16
            refine AXc.seq fun K17 hK17 => ?_
            refine AXc.region' fun K18 hK18 => ?_
            refine AXl.qt rfl (by decide : (2:Nat) < 47) (Still.qt (s_assign _)) ?_
            refine AXl.nm_f0 ?_
            refine AXl.nil ?_
            refine hK18 _ ?_
            clear hK18 K18
            refine Ethen.n ?_
            refine hK17 _ ?_
            clear hK17 K17
            refine AXc.ret ?_
            refine EinBlock.r ?_
            refine Ethen.r ?_
            clear hK10 K10
            refine Ethen.r ?_
            refine EinBlock.r ?_
            refine Ethen.r ?_
            clear hK3 K3
            refine Fin.ret rfl rfl ?_
            refine congrArg (fun x => [RV.d (.bool x)]) ?_
            first
              | (symm; unfold codesB
                 rw [List.all_eq_false]
                 refine ⟨k, List.mem_range.2 hk, ?_⟩
                 rw [Bool.not_eq_true]
                 refine not_codeAt hk ?_
                 first
                   | (left; omega)
                   | (right; refine ⟨by omega, ?_⟩; have hq : (((k:Nat):Int) - 1).toNat = k - 1 := by omega
                      simp only [hq] at hc16; omega))
              | (symm; unfold codesB
                 rw [List.all_eq_true]
                 intro x hx
                 exact hinv x (by have := List.mem_range.1 hx; omega))
          · try simp only [decide_eq_true_eq, decide_eq_false_iff_not, Bool.not_eq_true', Bool.not_eq_false', Int.not_lt, Int.not_le, ne_eq, Decidable.not_not, bne_iff_ne, beq_iff_eq, Bool.and_eq_true, Bool.or_eq_true, Bool.and_eq_false_iff, Bool.or_eq_false_iff, Bool.not_not, Ax.u8eq] at hc16
            refine AXc.skip ?_
            refine EinBlock.n ?_
            refine Ethen.n ?_
            refine hK10 _ ?_
            clear hK10 K10
            refine AXc.region' fun K19 hK19 => ?_
            refine AXl.qt rfl (by decide : (8:Nat) < 47) (Still.qt (s_move _)) ?_
            refine AXl.qt rfl (by decide : (9:Nat) < 47) (Still.qt (s_iar _ _ _ _ _ rfl rfl rfl (IntWalk.i64_in _ ⟨(by first | omega | (simp only [List.length_map, List.length_cons, List.length_nil, List.length_append, List.length_take, List.length_drop]; omega)), (by first | omega | (simp only [List.length_map, List.length_cons, List.length_nil, List.length_append, List.length_take, List.length_drop]; omega))⟩))) ?_
            refine AXl.qt rfl (by decide : (3:Nat) < 47) (Still.qt (s_assign _)) ?_
            refine AXl.nm_f0 ?_
            refine AXl.nil ?_
            refine hK19 _ ?_
            clear hK19 K19
            refine Ethen.n ?_
            clear hK3 K3
            refine ⟨k + 1, ⟨by omega, fun j hj => ?_⟩, by omega, (by refine ⟨?_, ?_, ?_, ?_, ?_, ?_⟩ <;> (simp [subE, lk, AV.low, C.low, LB.low] <;> fail))⟩
            by_cases e : j = k
            · subst e; exact codeAt_of hk (by first
                 | (left; omega)
                 | (right; refine ⟨by omega, by omega, ?_⟩; have hq : (((j:Nat):Int) - 1).toNat = j - 1 := by omega
                    simp only [hq] at hc16; omega))
            · exact hinv j (by omega)
        · try simp only [decide_eq_true_eq, decide_eq_false_iff_not, Bool.not_eq_true', Bool.not_eq_false', Int.not_lt, Int.not_le, ne_eq, Decidable.not_not, bne_iff_ne, beq_iff_eq, Bool.and_eq_true, Bool.or_eq_true, Bool.and_eq_false_iff, Bool.or_eq_false_iff, Bool.not_not, Ax.u8eq] at hg15
          simp only [del, ↓reduceIte, Nat.reduceEqDiff]
          refine AXd.skip rfl ?_
          refine AXd.skip rfl ?_
          refine AXd.skip rfl ?_
          refine AXd.skip rfl ?_
          refine AXd.skip rfl ?_
          refine AXd.skip rfl ?_
          refine AXd.skip rfl ?_
          refine AXd.skip rfl ?_
          refine AXd.op rfl (Still.qt (s_pick_f _ _ _ rfl)) ?_
          refine AXd.op rfl (Still.qt (s_pick_f _ _ _ rfl)) ?_
          refine AXd.nm_f0 ?_
          refine AXd.nil ?_
          refine AXl.nil ?_
          refine hK12 _ ?_
          clear hK12 K12
          refine Ethen.n ?_
          refine hK11 _ ?_
          clear hK11 K11
          refine AXc.cond_f rfl ?_
          refine AXc.skip ?_
          refine EinBlock.n ?_
          refine Ethen.n ?_
          refine hK10 _ ?_
          clear hK10 K10
          refine AXc.region' fun K20 hK20 => ?_
          refine AXl.qt rfl (by decide : (8:Nat) < 47) (Still.qt (s_move _)) ?_
          refine AXl.qt rfl (by decide : (9:Nat) < 47) (Still.qt (s_iar _ _ _ _ _ rfl rfl rfl (IntWalk.i64_in _ ⟨(by first | omega | (simp only [List.length_map, List.length_cons, List.length_nil, List.length_append, List.length_take, List.length_drop]; omega)), (by first | omega | (simp only [List.length_map, List.length_cons, List.length_nil, List.length_append, List.length_take, List.length_drop]; omega))⟩))) ?_
          refine AXl.qt rfl (by decide : (3:Nat) < 47) (Still.qt (s_assign _)) ?_
          refine AXl.nm_f0 ?_
          refine AXl.nil ?_
          refine hK20 _ ?_
          clear hK20 K20
          refine Ethen.n ?_
          clear hK3 K3
          refine ⟨k + 1, ⟨by omega, fun j hj => ?_⟩, by omega, (by refine ⟨?_, ?_, ?_, ?_, ?_, ?_⟩ <;> (simp [subE, lk, AV.low, C.low, LB.low] <;> fail))⟩
          by_cases e : j = k
          · subst e; exact codeAt_of hk (by first
               | (left; omega)
               | (right; refine ⟨by omega, by omega, ?_⟩; have hq : (((j:Nat):Int) - 1).toNat = j - 1 := by omega
                  simp only [hq] at hg15; omega))
          · exact hinv j (by omega)
      · try simp only [decide_eq_true_eq, decide_eq_false_iff_not, Bool.not_eq_true', Bool.not_eq_false', Int.not_lt, Int.not_le, ne_eq, Decidable.not_not, bne_iff_ne, beq_iff_eq, Bool.and_eq_true, Bool.or_eq_true, Bool.and_eq_false_iff, Bool.or_eq_false_iff, Bool.not_not, Ax.u8eq] at hg14
        simp only [del, ↓reduceIte, Nat.reduceEqDiff]
        refine AXd.op rfl (Still.qt (s_move _)) ?_
        refine AXd.op rfl (Still.qt (s_move _)) ?_
        refine AXd.nm_f0 ?_
        refine AXd.op rfl (Still.qt (s_index_str _ _ _ Tryd.underlying9 rfl rfl (by first | omega | (simp only [List.length_map, List.length_cons, List.length_nil, List.length_append, List.length_take, List.length_drop]; omega)) (List.getElem?_eq_getElem (by first | omega | (simp only [List.length_map, List.length_cons, List.length_nil, List.length_append, List.length_take, List.length_drop]; omega))))) ?_
        refine AXd.op rfl (Still.qt (s_icmp _ _ _ _ _ rfl rfl rfl)) ?_
        refine AXd.op rfl (Still.qt (s_move _)) ?_
        refine AXd.nm_f0 ?_
        refine AXd.split 25 _ rfl (fun hg21 => ?_) (fun hg21 => ?_)
        · try simp only [decide_eq_true_eq, decide_eq_false_iff_not, Bool.not_eq_true', Bool.not_eq_false', Int.not_lt, Int.not_le, ne_eq, Decidable.not_not, bne_iff_ne, beq_iff_eq, Bool.and_eq_true, Bool.or_eq_true, Bool.and_eq_false_iff, Bool.or_eq_false_iff, Bool.not_not, Ax.u8eq] at hg21
          simp only [del, ↓reduceIte, Nat.reduceEqDiff]
          refine AXd.op rfl (Still.qt (s_move _)) ?_
          refine AXd.op rfl (Still.qt (s_move _)) ?_
          refine AXd.nm_f0 ?_
          refine AXd.op rfl (Still.qt (s_index_str _ _ _ Tryd.underlying9 rfl rfl (by first | omega | (simp only [List.length_map, List.length_cons, List.length_nil, List.length_append, List.length_take, List.length_drop]; omega)) (List.getElem?_eq_getElem (by first | omega | (simp only [List.length_map, List.length_cons, List.length_nil, List.length_append, List.length_take, List.length_drop]; omega))))) ?_
          refine AXd.op rfl (Still.qt (s_icmp _ _ _ _ _ rfl rfl rfl)) ?_
          refine AXd.op rfl (Still.qt (s_pick_t _ _ _ rfl)) ?_
          refine AXd.op rfl (Still.qt (s_pick_f _ _ _ rfl)) ?_
          refine AXd.op rfl (Still.qt (s_not _ _ rfl)) ?_
          refine AXd.op rfl (Still.qt (s_move _)) ?_
          refine AXd.nm_f0 ?_
          refine AXd.split 33 _ rfl (fun hg22 => ?_) (fun hg22 => ?_)
          · try simp only [decide_eq_true_eq, decide_eq_false_iff_not, Bool.not_eq_true', Bool.not_eq_false', Int.not_lt, Int.not_le, ne_eq, Decidable.not_not, bne_iff_ne, beq_iff_eq, Bool.and_eq_true, Bool.or_eq_true, Bool.and_eq_false_iff, Bool.or_eq_false_iff, Bool.not_not, Ax.u8eq] at hg22
            simp only [del, ↓reduceIte, Nat.reduceEqDiff]
            refine AXd.skip rfl ?_
            refine AXd.skip rfl ?_
            refine AXd.skip rfl ?_
            refine AXd.skip rfl ?_
            refine AXd.skip rfl ?_
            refine AXd.skip rfl ?_
            refine AXd.skip rfl ?_
            refine AXd.skip rfl ?_
            refine AXd.skip rfl ?_
            refine AXd.skip rfl ?_
            refine AXd.skip rfl ?_
            refine AXd.skip rfl ?_
            refine AXd.nm_f0 ?_
            refine AXd.op rfl (Still.qt (s_pick_t _ _ _ rfl)) ?_
            refine AXd.nm_f0 ?_
            refine AXd.nil ?_
            refine AXl.nil ?_
            refine hK12 _ ?_
            clear hK12 K12
            refine Ethen.n ?_
            refine hK11 _ ?_
            clear hK11 K11
            refine AXc.cond_t rfl ?_
            refine AXc.seq fun K23 hK23 => ?_
            refine AXc.region' fun K24 hK24 => ?_
            refine AXl.qt rfl (by decide : (2:Nat) < 47) (Still.qt (s_assign _)) ?_
            refine AXl.nm_f0 ?_
            refine AXl.nil ?_
            refine hK24 _ ?_
            clear hK24 K24
            refine Ethen.n ?_
            refine hK23 _ ?_
            clear hK23 K23
            refine AXc.ret ?_
            refine EinBlock.r ?_
            refine Ethen.r ?_
            clear hK10 K10
            refine Ethen.r ?_
            refine EinBlock.r ?_
            refine Ethen.r ?_
            clear hK3 K3
            refine Fin.ret rfl rfl ?_
            refine congrArg (fun x => [RV.d (.bool x)]) ?_
            first
              | (symm; unfold codesB
                 rw [List.all_eq_false]
                 refine ⟨k, List.mem_range.2 hk, ?_⟩
                 rw [Bool.not_eq_true]
                 refine not_codeAt hk ?_
                 first
                   | (left; omega)
                   | (right; refine ⟨by omega, ?_⟩; have hq : (((k:Nat):Int) - 1).toNat = k - 1 := by omega
                      simp only [hq] at hg22; omega))
              | (symm; unfold codesB
                 rw [List.all_eq_true]
                 intro x hx
                 exact hinv x (by have := List.mem_range.1 hx; omega))
          · try simp only [decide_eq_true_eq, decide_eq_false_iff_not, Bool.not_eq_true', Bool.not_eq_false', Int.not_lt, Int.not_le, ne_eq, Decidable.not_not, bne_iff_ne, beq_iff_eq, Bool.and_eq_true, Bool.or_eq_true, Bool.and_eq_false_iff, Bool.or_eq_false_iff, Bool.not_not, Ax.u8eq] at hg22
            simp only [del, ↓reduceIte, Nat.reduceEqDiff]
            refine AXd.op rfl (Still.qt (s_move _)) ?_
            refine AXd.op rfl (Still.qt (s_icmp _ _ _ _ _ rfl rfl rfl)) ?_
            refine AXd.op rfl (Still.qt (s_move _)) ?_
            refine AXd.nm_f0 ?_
            refine AXd.split 36 _ rfl (fun hg25 => ?_) (fun hg25 => ?_)
            · try simp only [decide_eq_true_eq, decide_eq_false_iff_not, Bool.not_eq_true', Bool.not_eq_false', Int.not_lt, Int.not_le, ne_eq, Decidable.not_not, bne_iff_ne, beq_iff_eq, Bool.and_eq_true, Bool.or_eq_true, Bool.and_eq_false_iff, Bool.or_eq_false_iff, Bool.not_not, Ax.u8eq] at hg25
              simp only [del, ↓reduceIte, Nat.reduceEqDiff]
              refine AXd.op rfl (Still.qt (s_move _)) ?_
              refine AXd.op rfl (Still.qt (s_move _)) ?_
              refine AXd.nm_f0 ?_
              refine AXd.op rfl (Still.qt (s_index_str _ _ _ Tryd.underlying9 rfl rfl (by first | omega | (simp only [List.length_map, List.length_cons, List.length_nil, List.length_append, List.length_take, List.length_drop]; omega)) (List.getElem?_eq_getElem (by first | omega | (simp only [List.length_map, List.length_cons, List.length_nil, List.length_append, List.length_take, List.length_drop]; omega))))) ?_
              refine AXd.op rfl (Still.qt (s_move _)) ?_
              refine AXd.op rfl (Still.qt (s_move _)) ?_
              refine AXd.op rfl (Still.qt (s_iar _ _ _ _ _ rfl rfl rfl (IntWalk.i64_in _ ⟨(by first | omega | (simp only [List.length_map, List.length_cons, List.length_nil, List.length_append, List.length_take, List.length_drop]; omega)), (by first | omega | (simp only [List.length_map, List.length_cons, List.length_nil, List.length_append, List.length_take, List.length_drop]; omega))⟩))) ?_
              refine AXd.nm_f0 ?_
              refine AXd.op rfl (Still.qt (s_index_str _ _ _ Tryd.underlying9 rfl rfl (by first | omega | (simp only [List.length_map, List.length_cons, List.length_nil, List.length_append, List.length_take, List.length_drop]; omega)) (List.getElem?_eq_getElem (by first | omega | (simp only [List.length_map, List.length_cons, List.length_nil, List.length_append, List.length_take, List.length_drop]; omega))))) ?_
              refine AXd.op rfl (Still.qt (s_icmp _ _ _ _ _ rfl rfl rfl)) ?_
              refine AXd.op rfl (Still.qt (s_pick_t _ _ _ rfl)) ?_
              refine AXd.op rfl (Still.qt (s_pick_f _ _ _ rfl)) ?_
              refine AXd.nm_f0 ?_
              refine AXd.nil ?_
              refine AXl.nil ?_
              refine hK12 _ ?_
              clear hK12 K12
              refine Ethen.n ?_
              refine hK11 _ ?_
              clear hK11 K11
              refine AXc.cond rfl (fun hc26 => ?_) (fun hc26 => ?_)
              · try simp only [decide_eq_true_eq, decide_eq_false_iff_not, Bool.not_eq_true', Bool.not_eq_false', Int.not_lt, Int.not_le, ne_eq, Decidable.not_not, bne_iff_ne, beq_iff_eq, Bool.and_eq_true, Bool.or_eq_true, Bool.and_eq_false_iff, Bool.or_eq_false_iff, Bool.not_not, Ax.u8eq] at hc26
                refine AXc.seq fun K27 hK27 => ?_
                refine AXc.region' fun K28 hK28 => ?_
                refine AXl.qt rfl (by decide : (2:Nat) < 47) (Still.qt (s_assign _)) ?_
                refine AXl.nm_f0 ?_
                refine AXl.nil ?_
                refine hK28 _ ?_
                clear hK28 K28
                refine Ethen.n ?_
                refine hK27 _ ?_
                clear hK27 K27
                refine AXc.ret ?_
                refine EinBlock.r ?_
                refine Ethen.r ?_
                clear hK10 K10
                refine Ethen.r ?_
                refine EinBlock.r ?_
                refine Ethen.r ?_
                clear hK3 K3
                refine Fin.ret rfl rfl ?_
                refine congrArg (fun x => [RV.d (.bool x)]) ?_
                first
                  | (symm; unfold codesB
                     rw [List.all_eq_false]
                     refine ⟨k, List.mem_range.2 hk, ?_⟩
                     rw [Bool.not_eq_true]
                     refine not_codeAt hk ?_
                     first
                       | (left; omega)
                       | (right; refine ⟨by omega, ?_⟩; have hq : (((k:Nat):Int) - 1).toNat = k - 1 := by omega
                          simp only [hq] at hc26; omega))
                  | (symm; unfold codesB
                     rw [List.all_eq_true]
                     intro x hx
                     exact hinv x (by have := List.mem_range.1 hx; omega))
              · try simp only [decide_eq_true_eq, decide_eq_false_iff_not, Bool.not_eq_true', Bool.not_eq_false', Int.not_lt, Int.not_le, ne_eq, Decidable.not_not, bne_iff_ne, beq_iff_eq, Bool.and_eq_true, Bool.or_eq_true, Bool.and_eq_false_iff, Bool.or_eq_false_iff, Bool.not_not, Ax.u8eq] at hc26
                refine AXc.skip ?_
                refine EinBlock.n ?_
                refine Ethen.n ?_
                refine hK10 _ ?_
                clear hK10 K10
                refine AXc.region' fun K29 hK29 => ?_
                refine AXl.qt rfl (by decide : (8:Nat) < 47) (Still.qt (s_move _)) ?_
                refine AXl.qt rfl (by decide : (9:Nat) < 47) (Still.qt (s_iar _ _ _ _ _ rfl rfl rfl (IntWalk.i64_in _ ⟨(by first | omega | (simp only [List.length_map, List.length_cons, List.length_nil, List.length_append, List.length_take, List.length_drop]; omega)), (by first | omega | (simp only [List.length_map, List.length_cons, List.length_nil, List.length_append, List.length_take, List.length_drop]; omega))⟩))) ?_
                refine AXl.qt rfl (by decide : (3:Nat) < 47) (Still.qt (s_assign _)) ?_
                refine AXl.nm_f0 ?_
                refine AXl.nil ?_
                refine hK29 _ ?_
                clear hK29 K29
                refine Ethen.n ?_
                clear hK3 K3
                refine ⟨k + 1, ⟨by omega, fun j hj => ?_⟩, by omega, (by refine ⟨?_, ?_, ?_, ?_, ?_, ?_⟩ <;> (simp [subE, lk, AV.low, C.low, LB.low] <;> fail))⟩
                by_cases e : j = k
                · subst e; exact codeAt_of hk (by first
                     | (left; omega)
                     | (right; refine ⟨by omega, by omega, ?_⟩; have hq : (((j:Nat):Int) - 1).toNat = j - 1 := by omega
                        simp only [hq] at hc26; omega))
                · exact hinv j (by omega)
            · try simp only [decide_eq_true_eq, decide_eq_false_iff_not, Bool.not_eq_true', Bool.not_eq_false', Int.not_lt, Int.not_le, ne_eq, Decidable.not_not, bne_iff_ne, beq_iff_eq, Bool.and_eq_true, Bool.or_eq_true, Bool.and_eq_false_iff, Bool.or_eq_false_iff, Bool.not_not, Ax.u8eq] at hg25
              simp only [del, ↓reduceIte, Nat.reduceEqDiff]
              refine AXd.skip rfl ?_
              refine AXd.skip rfl ?_
              refine AXd.skip rfl ?_
              refine AXd.skip rfl ?_
              refine AXd.skip rfl ?_
              refine AXd.skip rfl ?_
              refine AXd.skip rfl ?_
              refine AXd.skip rfl ?_
              refine AXd.op rfl (Still.qt (s_pick_f _ _ _ rfl)) ?_
              refine AXd.op rfl (Still.qt (s_pick_f _ _ _ rfl)) ?_
              refine AXd.nm_f0 ?_
              refine AXd.nil ?_
              refine AXl.nil ?_
              refine hK12 _ ?_
              clear hK12 K12
              refine Ethen.n ?_
              refine hK11 _ ?_
              clear hK11 K11
              refine AXc.cond_f rfl ?_
              refine AXc.skip ?_
              refine EinBlock.n ?_
              refine Ethen.n ?_
              refine hK10 _ ?_
              clear hK10 K10
              refine AXc.region' fun K30 hK30 => ?_
              refine AXl.qt rfl (by decide : (8:Nat) < 47) (Still.qt (s_move _)) ?_
              refine AXl.qt rfl (by decide : (9:Nat) < 47) (Still.qt (s_iar _ _ _ _ _ rfl rfl rfl (IntWalk.i64_in _ ⟨(by first | omega | (simp only [List.length_map, List.length_cons, List.length_nil, List.length_append, List.length_take, List.length_drop]; omega)), (by first | omega | (simp only [List.length_map, List.length_cons, List.length_nil, List.length_append, List.length_take, List.length_drop]; omega))⟩))) ?_
              refine AXl.qt rfl (by decide : (3:Nat) < 47) (Still.qt (s_assign _)) ?_
              refine AXl.nm_f0 ?_
              refine AXl.nil ?_
              refine hK30 _ ?_
              clear hK30 K30
              refine Ethen.n ?_
              clear hK3 K3
              refine ⟨k + 1, ⟨by omega, fun j hj => ?_⟩, by omega, (by refine ⟨?_, ?_, ?_, ?_, ?_, ?_⟩ <;> (simp [subE, lk, AV.low, C.low, LB.low] <;> fail))⟩
              by_cases e : j = k
              · subst e; exact codeAt_of hk (by first
                   | (left; omega)
                   | (right; refine ⟨by omega, by omega, ?_⟩; have hq : (((j:Nat):Int) - 1).toNat = j - 1 := by omega
                      simp only [hq] at hg25; omega))
              · exact hinv j (by omega)
        · try simp only [decide_eq_true_eq, decide_eq_false_iff_not, Bool.not_eq_true', Bool.not_eq_false', Int.not_lt, Int.not_le, ne_eq, Decidable.not_not, bne_iff_ne, beq_iff_eq, Bool.and_eq_true, Bool.or_eq_true, Bool.and_eq_false_iff, Bool.or_eq_false_iff, Bool.not_not, Ax.u8eq] at hg21
          simp only [del, ↓reduceIte, Nat.reduceEqDiff]
          refine AXd.skip rfl ?_
          refine AXd.skip rfl ?_
          refine AXd.skip rfl ?_
          refine AXd.skip rfl ?_
          refine AXd.op rfl (Still.qt (s_pick_f _ _ _ rfl)) ?_
          refine AXd.op rfl (Still.qt (s_pick_f _ _ _ rfl)) ?_
          refine AXd.op rfl (Still.qt (s_not _ _ rfl)) ?_
          refine AXd.op rfl (Still.qt (s_move _)) ?_
          refine AXd.skip rfl ?_
          refine AXd.skip rfl ?_
          refine AXd.skip rfl ?_
          refine AXd.skip rfl ?_
          refine AXd.nm_f0 ?_
          refine AXd.skip rfl ?_
          refine AXd.skip rfl ?_
          refine AXd.skip rfl ?_
          refine AXd.skip rfl ?_
          refine AXd.skip rfl ?_
          refine AXd.skip rfl ?_
          refine AXd.skip rfl ?_
          refine AXd.skip rfl ?_
          refine AXd.op rfl (Still.qt (s_pick_t _ _ _ rfl)) ?_
          refine AXd.nm_f0 ?_
          refine AXd.nil ?_
          refine AXl.nil ?_
          refine hK12 _ ?_
          clear hK12 K12
          refine Ethen.n ?_
          refine hK11 _ ?_
          clear hK11 K11
          refine AXc.cond_t rfl ?_
          refine AXc.seq fun K31 hK31 => ?_
          refine AXc.region' fun K32 hK32 => ?_
          refine AXl.qt rfl (by decide : (2:Nat) < 47) (Still.qt (s_assign _)) ?_
          refine AXl.nm_f0 ?_
          refine AXl.nil ?_
          refine hK32 _ ?_
          clear hK32 K32
          refine Ethen.n ?_
          refine hK31 _ ?_
          clear hK31 K31
          refine AXc.ret ?_
          refine EinBlock.r ?_
          refine Ethen.r ?_
          clear hK10 K10
          refine Ethen.r ?_
          refine EinBlock.r ?_
          refine Ethen.r ?_
          clear hK3 K3
          refine Fin.ret rfl rfl ?_
          refine congrArg (fun x => [RV.d (.bool x)]) ?_
          first
            | (symm; unfold codesB
               rw [List.all_eq_false]
               refine ⟨k, List.mem_range.2 hk, ?_⟩
               rw [Bool.not_eq_true]
               refine not_codeAt hk ?_
               first
                 | (left; omega)
                 | (right; refine ⟨by omega, ?_⟩; have hq : (((k:Nat):Int) - 1).toNat = k - 1 := by omega
                    simp only [hq] at hg21; omega))
            | (symm; unfold codesB
               rw [List.all_eq_true]
               intro x hx
               exact hinv x (by have := List.mem_range.1 hx; omega))
    · try simp only [decide_eq_true_eq, decide_eq_false_iff_not, Bool.not_eq_true', Bool.not_eq_false', Int.not_lt, Int.not_le, ne_eq, Decidable.not_not, bne_iff_ne, beq_iff_eq, Bool.and_eq_true, Bool.or_eq_true, Bool.and_eq_false_iff, Bool.or_eq_false_iff, Bool.not_not, Ax.u8eq] at hg13
      simp only [del, ↓reduceIte, Nat.reduceEqDiff]
      refine AXd.skip rfl ?_
      refine AXd.skip rfl ?_
      refine AXd.skip rfl ?_
      refine AXd.skip rfl ?_
      refine AXd.op rfl (Still.qt (s_pick_f _ _ _ rfl)) ?_
      refine AXd.op rfl (Still.qt (s_move _)) ?_
      refine AXd.op rfl (Still.qt (s_move _)) ?_
      refine AXd.op rfl (Still.qt (s_move _)) ?_
      refine AXd.nm_f0 ?_
      refine AXd.op rfl (Still.qt (s_index_str _ _ _ Tryd.underlying9 rfl rfl (by first | omega | (simp only [List.length_map, List.length_cons, List.length_nil, List.length_append, List.length_take, List.length_drop]; omega)) (List.getElem?_eq_getElem (by first | omega | (simp only [List.length_map, List.length_cons, List.length_nil, List.length_append, List.length_take, List.length_drop]; omega))))) ?_
      refine AXd.op rfl (Still.qt (s_icmp _ _ _ _ _ rfl rfl rfl)) ?_
      refine AXd.op rfl (Still.qt (s_move _)) ?_
      refine AXd.nm_f0 ?_
      refine AXd.split 25 _ rfl (fun hg33 => ?_) (fun hg33 => ?_)
      · try simp only [decide_eq_true_eq, decide_eq_false_iff_not, Bool.not_eq_true', Bool.not_eq_false', Int.not_lt, Int.not_le, ne_eq, Decidable.not_not, bne_iff_ne, beq_iff_eq, Bool.and_eq_true, Bool.or_eq_true, Bool.and_eq_false_iff, Bool.or_eq_false_iff, Bool.not_not, Ax.u8eq] at hg33
        simp only [del, ↓reduceIte, Nat.reduceEqDiff]
        refine AXd.op rfl (Still.qt (s_move _)) ?_
        refine AXd.op rfl (Still.qt (s_move _)) ?_
        refine AXd.nm_f0 ?_
        refine AXd.op rfl (Still.qt (s_index_str _ _ _ Tryd.underlying9 rfl rfl (by first | omega | (simp only [List.length_map, List.length_cons, List.length_nil, List.length_append, List.length_take, List.length_drop]; omega)) (List.getElem?_eq_getElem (by first | omega | (simp only [List.length_map, List.length_cons, List.length_nil, List.length_append, List.length_take, List.length_drop]; omega))))) ?_
        refine AXd.op rfl (Still.qt (s_icmp _ _ _ _ _ rfl rfl rfl)) ?_
        refine AXd.op rfl (Still.qt (s_pick_t _ _ _ rfl)) ?_
        refine AXd.op rfl (Still.qt (s_pick_f _ _ _ rfl)) ?_
        refine AXd.op rfl (Still.qt (s_not _ _ rfl)) ?_
        refine AXd.op rfl (Still.qt (s_move _)) ?_
        refine AXd.nm_f0 ?_
        refine AXd.split 33 _ rfl (fun hg34 => ?_) (fun hg34 => ?_)
        · try simp only [decide_eq_true_eq, decide_eq_false_iff_not, Bool.not_eq_true', Bool.not_eq_false', Int.not_lt, Int.not_le, ne_eq, Decidable.not_not, bne_iff_ne, beq_iff_eq, Bool.and_eq_true, Bool.or_eq_true, Bool.and_eq_false_iff, Bool.or_eq_false_iff, Bool.not_not, Ax.u8eq] at hg34
          simp only [del, ↓reduceIte, Nat.reduceEqDiff]
          refine AXd.skip rfl ?_
          refine AXd.skip rfl ?_
          refine AXd.skip rfl ?_
          refine AXd.skip rfl ?_
          refine AXd.skip rfl ?_
          refine AXd.skip rfl ?_
          refine AXd.skip rfl ?_
          refine AXd.skip rfl ?_
          refine AXd.skip rfl ?_
          refine AXd.skip rfl ?_
          refine AXd.skip rfl ?_
          refine AXd.skip rfl ?_
          refine AXd.nm_f0 ?_
          refine AXd.op rfl (Still.qt (s_pick_t _ _ _ rfl)) ?_
          refine AXd.nm_f0 ?_
          refine AXd.nil ?_
          refine AXl.nil ?_
          refine hK12 _ ?_
          clear hK12 K12
          refine Ethen.n ?_
          refine hK11 _ ?_
          clear hK11 K11
          refine AXc.cond_t rfl ?_
          refine AXc.seq fun K35 hK35 => ?_
          refine AXc.region' fun K36 hK36 => ?_
          refine AXl.qt rfl (by decide : (2:Nat) < 47) (Still.qt (s_assign _)) ?_
          refine AXl.nm_f0 ?_
          refine AXl.nil ?_
          refine hK36 _ ?_
          clear hK36 K36
          refine Ethen.n ?_
          refine hK35 _ ?_
          clear hK35 K35
          refine AXc.ret ?_
          refine EinBlock.r ?_
          refine Ethen.r ?_
          clear hK10 K10
          refine Ethen.r ?_
          refine EinBlock.r ?_
          refine Ethen.r ?_
          clear hK3 K3
          refine Fin.ret rfl rfl ?_
          refine congrArg (fun x => [RV.d (.bool x)]) ?_
          first
            | (symm; unfold codesB
               rw [List.all_eq_false]
               refine ⟨k, List.mem_range.2 hk, ?_⟩
               rw [Bool.not_eq_true]
               refine not_codeAt hk ?_
               first
                 | (left; omega)
                 | (right; refine ⟨by omega, ?_⟩; have hq : (((k:Nat):Int) - 1).toNat = k - 1 := by omega
                    simp only [hq] at hg34; omega))
            | (symm; unfold codesB
               rw [List.all_eq_true]
               intro x hx
               exact hinv x (by have := List.mem_range.1 hx; omega))
        · try simp only [decide_eq_true_eq, decide_eq_false_iff_not, Bool.not_eq_true', Bool.not_eq_false', Int.not_lt, Int.not_le, ne_eq, Decidable.not_not, bne_iff_ne, beq_iff_eq, Bool.and_eq_true, Bool.or_eq_true, Bool.and_eq_false_iff, Bool.or_eq_false_iff, Bool.not_not, Ax.u8eq] at hg34
          simp only [del, ↓reduceIte, Nat.reduceEqDiff]
          refine AXd.op rfl (Still.qt (s_move _)) ?_
          refine AXd.op rfl (Still.qt (s_icmp _ _ _ _ _ rfl rfl rfl)) ?_
          refine AXd.op rfl (Still.qt (s_move _)) ?_
          refine AXd.nm_f0 ?_
          refine AXd.split 36 _ rfl (fun hg37 => ?_) (fun hg37 => ?_)
          · try simp only [decide_eq_true_eq, decide_eq_false_iff_not, Bool.not_eq_true', Bool.not_eq_false', Int.not_lt, Int.not_le, ne_eq, Decidable.not_not, bne_iff_ne, beq_iff_eq, Bool.and_eq_true, Bool.or_eq_true, Bool.and_eq_false_iff, Bool.or_eq_false_iff, Bool.not_not, Ax.u8eq] at hg37
            simp only [del, ↓reduceIte, Nat.reduceEqDiff]
            refine AXd.op rfl (Still.qt (s_move _)) ?_
            refine AXd.op rfl (Still.qt (s_move _)) ?_
            refine AXd.nm_f0 ?_
            refine AXd.op rfl (Still.qt (s_index_str _ _ _ Tryd.underlying9 rfl rfl (by first | omega | (simp only [List.length_map, List.length_cons, List.length_nil, List.length_append, List.length_take, List.length_drop]; omega)) (List.getElem?_eq_getElem (by first | omega | (simp only [List.length_map, List.length_cons, List.length_nil, List.length_append, List.length_take, List.length_drop]; omega))))) ?_
            refine AXd.op rfl (Still.qt (s_move _)) ?_
            refine AXd.op rfl (Still.qt (s_move _)) ?_
            refine AXd.op rfl (Still.qt (s_iar _ _ _ _ _ rfl rfl rfl (IntWalk.i64_in _ ⟨(by first | omega | (simp only [List.length_map, List.length_cons, List.length_nil, List.length_append, List.length_take, List.length_drop]; omega)), (by first | omega | (simp only [List.length_map, List.length_cons, List.length_nil, List.length_append, List.length_take, List.length_drop]; omega))⟩))) ?_
            refine AXd.nm_f0 ?_
            refine AXd.op rfl (Still.qt (s_index_str _ _ _ Tryd.underlying9 rfl rfl (by first | omega | (simp only [List.length_map, List.length_cons, List.length_nil, List.length_append, List.length_take, List.length_drop]; omega)) (List.getElem?_eq_getElem (by first | omega | (simp only [List.length_map, List.length_cons, List.length_nil, List.length_append, List.length_take, List.length_drop]; omega))))) ?_
            refine AXd.op rfl (Still.qt (s_icmp _ _ _ _ _ rfl rfl rfl)) ?_
            refine AXd.op rfl (Still.qt (s_pick_t _ _ _ rfl)) ?_
            refine AXd.op rfl (Still.qt (s_pick_f _ _ _ rfl)) ?_
            refine AXd.nm_f0 ?_
            refine AXd.nil ?_
            refine AXl.nil ?_
            refine hK12 _ ?_
            clear hK12 K12
            refine Ethen.n ?_
            refine hK11 _ ?_
            clear hK11 K11
            refine AXc.cond rfl (fun hc38 => ?_) (fun hc38 => ?_)
            · try simp only [decide_eq_true_eq, decide_eq_false_iff_not, Bool.not_eq_true', Bool.not_eq_false', Int.not_lt, Int.not_le, ne_eq, Decidable.not_not, bne_iff_ne, beq_iff_eq, Bool.and_eq_true, Bool.or_eq_true, Bool.and_eq_false_iff, Bool.or_eq_false_iff, Bool.not_not, Ax.u8eq] at hc38
              refine AXc.seq fun K39 hK39 => ?_
              refine AXc.region' fun K40 hK40 => ?_
              refine AXl.qt rfl (by decide : (2:Nat) < 47) (Still.qt (s_assign _)) ?_
              refine AXl.nm_f0 ?_
              refine AXl.nil ?_
              refine hK40 _ ?_
              clear hK40 K40
              refine Ethen.n ?_
              refine hK39 _ ?_
              clear hK39 K39
              refine AXc.ret ?_
              refine EinBlock.r ?_
              refine Ethen.r ?_
              clear hK10 K10
              refine Ethen.r ?_
              refine EinBlock.r ?_
              refine Ethen.r ?_
              clear hK3 K3
              refine Fin.ret rfl rfl ?_
              refine congrArg (fun x => [RV.d (.bool x)]) ?_
              first
                | (symm; unfold codesB
                   rw [List.all_eq_false]
                   refine ⟨k, List.mem_range.2 hk, ?_⟩
                   rw [Bool.not_eq_true]
                   refine not_codeAt hk ?_
                   first
                     | (left; omega)
                     | (right; refine ⟨by omega, ?_⟩; have hq : (((k:Nat):Int) - 1).toNat = k - 1 := by omega
                        simp only [hq] at hc38; omega))
                | (symm; unfold codesB
                   rw [List.all_eq_true]
                   intro x hx
                   exact hinv x (by have := List.mem_range.1 hx; omega))
            · try simp only [decide_eq_true_eq, decide_eq_false_iff_not, Bool.not_eq_true', Bool.not_eq_false', Int.not_lt, Int.not_le, ne_eq, Decidable.not_not, bne_iff_ne, beq_iff_eq, Bool.and_eq_true, Bool.or_eq_true, Bool.and_eq_false_iff, Bool.or_eq_false_iff, Bool.not_not, Ax.u8eq] at hc38
              refine AXc.skip ?_
              refine EinBlock.n ?_
              refine Ethen.n ?_
              refine hK10 _ ?_
              clear hK10 K10
              refine AXc.region' fun K41 hK41 => ?_
              refine AXl.qt rfl (by decide : (8:Nat) < 47) (Still.qt (s_move _)) ?_
              refine AXl.qt rfl (by decide : (9:Nat) < 47) (Still.qt (s_iar _ _ _ _ _ rfl rfl rfl (IntWalk.i64_in _ ⟨(by first | omega | (simp only [List.length_map, List.length_cons, List.length_nil, List.length_append, List.length_take, List.length_drop]; omega)), (by first | omega | (simp only [List.length_map, List.length_cons, List.length_nil, List.length_append, List.length_take, List.length_drop]; omega))⟩))) ?_
              refine AXl.qt rfl (by decide : (3:Nat) < 47) (Still.qt (s_assign _)) ?_
              refine AXl.nm_f0 ?_
              refine AXl.nil ?_
              refine hK41 _ ?_
              clear hK41 K41
              refine Ethen.n ?_
              clear hK3 K3
              refine ⟨k + 1, ⟨by omega, fun j hj => ?_⟩, by omega, (by refine ⟨?_, ?_, ?_, ?_, ?_, ?_⟩ <;> (simp [subE, lk, AV.low, C.low, LB.low] <;> fail))⟩
              by_cases e : j = k
              · subst e; exact codeAt_of hk (by first
                   | (left; omega)
                   | (right; refine ⟨by omega, by omega, ?_⟩; have hq : (((j:Nat):Int) - 1).toNat = j - 1 := by omega
                      simp only [hq] at hc38; omega))
              · exact hinv j (by omega)
          · try simp only [decide_eq_true_eq, decide_eq_false_iff_not, Bool.not_eq_true', Bool.not_eq_false', Int.not_lt, Int.not_le, ne_eq, Decidable.not_not, bne_iff_ne, beq_iff_eq, Bool.and_eq_true, Bool.or_eq_true, Bool.and_eq_false_iff, Bool.or_eq_false_iff, Bool.not_not, Ax.u8eq] at hg37
            simp only [del, ↓reduceIte, Nat.reduceEqDiff]
            refine AXd.skip rfl ?_
            refine AXd.skip rfl ?_
            refine AXd.skip rfl ?_
            refine AXd.skip rfl ?_
            refine AXd.skip rfl ?_
            refine AXd.skip rfl ?_
            refine AXd.skip rfl ?_
            refine AXd.skip rfl ?_
            refine AXd.op rfl (Still.qt (s_pick_f _ _ _ rfl)) ?_
            refine AXd.op rfl (Still.qt (s_pick_f _ _ _ rfl)) ?_
            refine AXd.nm_f0 ?_
            refine AXd.nil ?_
            refine AXl.nil ?_
            refine hK12 _ ?_
            clear hK12 K12
            refine Ethen.n ?_
            refine hK11 _ ?_
            clear hK11 K11
            refine AXc.cond_f rfl ?_
            refine AXc.skip ?_
            refine EinBlock.n ?_
            refine Ethen.n ?_
            refine hK10 _ ?_
            clear hK10 K10
            refine AXc.region' fun K42 hK42 => ?_
            refine AXl.qt rfl (by decide : (8:Nat) < 47) (Still.qt (s_move _)) ?_
            refine AXl.qt rfl (by decide : (9:Nat) < 47) (Still.qt (s_iar _ _ _ _ _ rfl rfl rfl (IntWalk.i64_in _ ⟨(by first | omega | (simp only [List.length_map, List.length_cons, List.length_nil, List.length_append, List.length_take, List.length_drop]; omega)), (by first | omega | (simp only [List.length_map, List.length_cons, List.length_nil, List.length_append, List.length_take, List.length_drop]; omega))⟩))) ?_
            refine AXl.qt rfl (by decide : (3:Nat) < 47) (Still.qt (s_assign _)) ?_
            refine AXl.nm_f0 ?_
            refine AXl.nil ?_
            refine hK42 _ ?_
            clear hK42 K42
            refine Ethen.n ?_
            clear hK3 K3
            refine ⟨k + 1, ⟨by omega, fun j hj => ?_⟩, by omega, (by refine ⟨?_, ?_, ?_, ?_, ?_, ?_⟩ <;> (simp [subE, lk, AV.low, C.low, LB.low] <;> fail))⟩
            by_cases e : j = k
            · subst e; exact codeAt_of hk (by first
                 | (left; omega)
                 | (right; refine ⟨by omega, by omega, ?_⟩; have hq : (((j:Nat):Int) - 1).toNat = j - 1 := by omega
                    simp only [hq] at hg37; omega))
            · exact hinv j (by omega)
      · try simp only [decide_eq_true_eq, decide_eq_false_iff_not, Bool.not_eq_true', Bool.not_eq_false', Int.not_lt, Int.not_le, ne_eq, Decidable.not_not, bne_iff_ne, beq_iff_eq, Bool.and_eq_true, Bool.or_eq_true, Bool.and_eq_false_iff, Bool.or_eq_false_iff, Bool.not_not, Ax.u8eq] at hg33
        simp only [del, ↓reduceIte, Nat.reduceEqDiff]
        refine AXd.skip rfl ?_
        refine AXd.skip rfl ?_
        refine AXd.skip rfl ?_
        refine AXd.skip rfl ?_
        refine AXd.op rfl (Still.qt (s_pick_f _ _ _ rfl)) ?_
        refine AXd.op rfl (Still.qt (s_pick_f _ _ _ rfl)) ?_
        refine AXd.op rfl (Still.qt (s_not _ _ rfl)) ?_
        refine AXd.op rfl (Still.qt (s_move _)) ?_
        refine AXd.skip rfl ?_
        refine AXd.skip rfl ?_
        refine AXd.skip rfl ?_
        refine AXd.skip rfl ?_
        refine AXd.nm_f0 ?_
        refine AXd.skip rfl ?_
        refine AXd.skip rfl ?_
        refine AXd.skip rfl ?_
        refine AXd.skip rfl ?_
        refine AXd.skip rfl ?_
        refine AXd.skip rfl ?_
        refine AXd.skip rfl ?_
        refine AXd.skip rfl ?_
        refine AXd.op rfl (Still.qt (s_pick_t _ _ _ rfl)) ?_
        refine AXd.nm_f0 ?_
        refine AXd.nil ?_
        refine AXl.nil ?_
        refine hK12 _ ?_
        clear hK12 K12
        refine Ethen.n ?_
        refine hK11 _ ?_
        clear hK11 K11
        refine AXc.cond_t rfl ?_
        refine AXc.seq fun K43 hK43 => ?_
        refine AXc.region' fun K44 hK44 => ?_
        refine AXl.qt rfl (by decide : (2:Nat) < 47) (Still.qt (s_assign _)) ?_
        refine AXl.nm_f0 ?_
        refine AXl.nil ?_
        refine hK44 _ ?_
        clear hK44 K44
        refine Ethen.n ?_
        refine hK43 _ ?_
        clear hK43 K43
        refine AXc.ret ?_
        refine EinBlock.r ?_
        refine Ethen.r ?_
        clear hK10 K10
        refine Ethen.r ?_
        refine EinBlock.r ?_
        refine Ethen.r ?_
        clear hK3 K3
        refine Fin.ret rfl rfl ?_
        refine congrArg (fun x => [RV.d (.bool x)]) ?_
        first
          | (symm; unfold codesB
             rw [List.all_eq_false]
             refine ⟨k, List.mem_range.2 hk, ?_⟩
             rw [Bool.not_eq_true]
             refine not_codeAt hk ?_
             first
               | (left; omega)
               | (right; refine ⟨by omega, ?_⟩; have hq : (((k:Nat):Int) - 1).toNat = k - 1 := by omega
                  simp only [hq] at hg33; omega))
          | (symm; unfold codesB
             rw [List.all_eq_true]
             intro x hx
             exact hinv x (by have := List.mem_range.1 hx; omega))
  · try simp only [decide_eq_true_eq, decide_eq_false_iff_not, Bool.not_eq_true', Bool.not_eq_false', Int.not_lt, Int.not_le, ne_eq, Decidable.not_not, bne_iff_ne, beq_iff_eq, Bool.and_eq_true, Bool.or_eq_true, Bool.and_eq_false_iff, Bool.or_eq_false_iff, Bool.not_not, Ax.u8eq] at hc9
    refine AXc.exit ?_
    refine Ethen.e ?_
    clear hK6 K6
    refine Ethen.e ?_
    refine EinBlock.hit ?_
    refine Ethen.n ?_
    refine hK3 _ ?_
    clear hK3 K3
    refine AXc.seq fun K45 hK45 => ?_
    refine AXc.region' fun K46 hK46 => ?_
    refine AXl.qt rfl (by decide : (2:Nat) < 47) (Still.qt (s_assign _)) ?_
    refine AXl.nm_f0 ?_
    refine AXl.nil ?_
    refine hK46 _ ?_
    clear hK46 K46
    refine Ethen.n ?_
    refine hK45 _ ?_
    clear hK45 K45
    refine AXc.ret ?_
    refine Fin.ret rfl rfl ?_
    refine congrArg (fun x => [RV.d (.bool x)]) ?_
    first
      | (symm; unfold codesB
         rw [List.all_eq_false]
         refine ⟨k, List.mem_range.2 hk, ?_⟩
         rw [Bool.not_eq_true]
         refine not_codeAt hk ?_
         first
           | (left; omega)
           | (right; refine ⟨by omega, ?_⟩; have hq : (((k:Nat):Int) - 1).toNat = k - 1 := by omega
              simp only [hq] at hc9; omega))
      | (symm; unfold codesB
         rw [List.all_eq_true]
         intro x hx
         exact hinv x (by have := List.mem_range.1 hx; omega))
/-- The contract of library libraryref09.Within. -/
theorem c25 {Γ : List (Nat × List D)} (a t : Str) (ha : a.length ≤ 1000000) (hl : t.length ≤ 1000000) : AFn Tryd.prog Γ 25 [.c (.d (.str a)), .c (.d (.str t))] [.d (.bool (t.all fun c => a.any (· == c)))] := by
  refine AFn.of_body0 (n := 18) (res := [.tmp 4]) Tryd.func25 (by kernel_rfl) rfl Tryd.ntmps25 (by rw [Tryd.results25]) (by simp) ?_
  simp only [envOf, Nat.reduceAdd]
  refine AXc.seq fun K1 hK1 => ?_
  refine AXc.region' fun K2 hK2 => ?_
  refine AXl.qt rfl (by decide : (4:Nat) < 18) (Still.qt (s_assign _)) ?_
  refine AXl.nm_f0 ?_
  refine AXl.nil ?_
  refine hK2 _ ?_
  clear hK2 K2
  refine Ethen.n ?_
  refine hK1 _ ?_
  clear hK1 K1
  refine AXc.seq fun K3 hK3 => ?_
  refine AXc.seq fun K4 hK4 => ?_
  refine AXc.region' fun K5 hK5 => ?_
  refine AXl.qt rfl (by decide : (5:Nat) < 18) (Still.qt (s_assign _)) ?_
  refine AXl.nm_f0 ?_
  refine AXl.nil ?_
  refine hK5 _ ?_
  clear hK5 K5
  refine Ethen.n ?_
  refine hK4 _ ?_
  clear hK4 K4
  refine AXc.block ?_
  refine AXc.loop (S := Nat) (fun k => ⟨[(0, .c (.d (.str a))), (1, .c (.d (.str t))), (5, .c (.d (.int .i64 k)))], []⟩) (fun k => k ≤ t.length ∧ (t.drop k).all (fun c => a.any (· == c)) = t.all fun c => a.any (· == c)) (fun k => t.length - k) 0 ⟨by omega, by simp⟩ (by refine ⟨?_, ?_, ?_, ?_, ?_, ?_⟩ <;> (simp [subE, lk, AV.low, C.low, LB.low] <;> fail)) ?_
  rintro k ⟨hk0, hinv⟩
  refine AXc.seq fun K6 hK6 => ?_
  refine AXc.seq fun K7 hK7 => ?_
  refine AXc.region' fun K8 hK8 => ?_
  refine AXl.qt rfl (by decide : (6:Nat) < 18) (Still.qt (s_move _)) ?_
  refine AXl.qt rfl (by decide : (7:Nat) < 18) (Still.qt (s_move _)) ?_
  refine AXl.qt rfl (by decide : (8:Nat) < 18) (Still.qt (s_len_str _ _ Tryd.underlying9 rfl)) ?_
  refine AXl.qt rfl (by decide : (9:Nat) < 18) (Still.qt (s_icmp _ _ _ _ _ rfl rfl rfl)) ?_
  refine AXl.nm_f0 ?_
  refine AXl.nil ?_
  refine hK8 _ ?_
  clear hK8 K8
  refine Ethen.n ?_
  refine hK7 _ ?_
  clear hK7 K7
  refine AXc.cond rfl (fun hc9 => ?_) (fun hc9 => ?_)
  · try simp only [decide_eq_true_eq, decide_eq_false_iff_not, Bool.not_eq_true', Bool.not_eq_false', Int.not_lt, Int.not_le, ne_eq, Decidable.not_not, bne_iff_ne, beq_iff_eq, Bool.and_eq_true, Bool.or_eq_true, Bool.and_eq_false_iff, Bool.or_eq_false_iff, Bool.not_not, Ax.u8eq] at hc9
    have hk : k < t.length := by omega
    refine AXc.skip ?_
    refine Ethen.n ?_
    refine hK6 _ ?_
    clear hK6 K6
    refine AXc.seq fun K10 hK10 => ?_
    refine AXc.block ?_
    refine AXc.seq fun K11 hK11 => ?_
    refine AXc.region' fun K12 hK12 => ?_
    refine AXl.qt rfl (by decide : (12:Nat) < 18) (Still.qt (s_move _)) ?_
    refine AXl.qt rfl (by decide : (13:Nat) < 18) (Still.qt (s_move _)) ?_
    refine AXl.qt rfl (by decide : (14:Nat) < 18) (Still.qt (s_move _)) ?_
    refine AXl.nm_f0 ?_
    refine AXl.qt rfl (by decide : (15:Nat) < 18) (Still.qt (s_index_str _ _ _ Tryd.underlying9 rfl rfl (by first | omega | (simp only [List.length_map, List.length_cons, List.length_nil, List.length_append, List.length_take, List.length_drop]; omega)) (List.getElem?_eq_getElem (by first | omega | (simp only [List.length_map, List.length_cons, List.length_nil, List.length_append, List.length_take, List.length_drop]; omega))))) ?_
    refine AXl.nm_f0 ?_
    refine AXl.qt rfl (by decide : (16:Nat) < 18) (q_call (c28 _ _ ha) (.cons (by first | exact ArgOk.d | exact ArgOk.bor rfl | exact ArgOk.agg rfl | exact ArgOk.agg (toDs_map _) | exact ArgOk.nil_bor | exact ArgOk.nil_lst | exact ArgOk.fn | exact ArgOk.ptr rfl rfl | exact ArgOk.aggn rfl (by repeat first | exact .nil | refine .cons (.refl _) ?_ | refine .cons (.nil _) ?_)) (.cons (by first | exact ArgOk.d | exact ArgOk.bor rfl | exact ArgOk.agg rfl | exact ArgOk.agg (toDs_map _) | exact ArgOk.nil_bor | exact ArgOk.nil_lst | exact ArgOk.fn | exact ArgOk.ptr rfl rfl | exact ArgOk.aggn rfl (by repeat first | exact .nil | refine .cons (.refl _) ?_ | refine .cons (.nil _) ?_)) .nil))) ?_
    refine AXl.qt rfl (by decide : (17:Nat) < 18) (Still.qt (s_not _ _ rfl)) ?_
    refine AXl.nm_f0 ?_
    refine AXl.nil ?_
    refine hK12 _ ?_
    clear hK12 K12
    refine Ethen.n ?_
    refine hK11 _ ?_
    clear hK11 K11
    refine AXc.cond rfl (fun hc13 => ?_) (fun hc13 => ?_)
    · try simp only [decide_eq_true_eq, decide_eq_false_iff_not, Bool.not_eq_true', Bool.not_eq_false', Int.not_lt, Int.not_le, ne_eq, Decidable.not_not, bne_iff_ne, beq_iff_eq, Bool.and_eq_true, Bool.or_eq_true, Bool.and_eq_false_iff, Bool.or_eq_false_iff, Bool.not_not, Ax.u8eq] at hc13
      refine AXc.seq fun K14 hK14 => ?_
      refine AXc.region' fun K15 hK15 => ?_
      refine AXl.qt rfl (by decide : (4:Nat) < 18) (Still.qt (s_assign _)) ?_
      refine AXl.nm_f0 ?_
      refine AXl.nil ?_
      refine hK15 _ ?_
      clear hK15 K15
      refine Ethen.n ?_
      refine hK14 _ ?_
      clear hK14 K14
      refine AXc.ret ?_
      refine EinBlock.r ?_
      refine Ethen.r ?_
      clear hK10 K10
      refine Ethen.r ?_
      refine EinBlock.r ?_
      refine Ethen.r ?_
      clear hK3 K3
      refine Fin.ret rfl rfl ?_
      first
        | (rw [← hinv, drop_cons hk, List.all_cons, hc13]; rfl)
        | (rw [← hinv, drop_end (by omega)]; rfl)
    · try simp only [decide_eq_true_eq, decide_eq_false_iff_not, Bool.not_eq_true', Bool.not_eq_false', Int.not_lt, Int.not_le, ne_eq, Decidable.not_not, bne_iff_ne, beq_iff_eq, Bool.and_eq_true, Bool.or_eq_true, Bool.and_eq_false_iff, Bool.or_eq_false_iff, Bool.not_not, Ax.u8eq] at hc13
      refine AXc.skip ?_
      refine EinBlock.n ?_
      refine Ethen.n ?_
      refine hK10 _ ?_
      clear hK10 K10
      refine AXc.region' fun K16 hK16 => ?_
      refine AXl.qt rfl (by decide : (10:Nat) < 18) (Still.qt (s_move _)) ?_
      refine AXl.qt rfl (by decide : (11:Nat) < 18) (Still.qt (s_iar _ _ _ _ _ rfl rfl rfl (IntWalk.i64_in _ ⟨(by first | omega | (simp only [List.length_map, List.length_cons, List.length_nil, List.length_append, List.length_take, List.length_drop]; omega)), (by first | omega | (simp only [List.length_map, List.length_cons, List.length_nil, List.length_append, List.length_take, List.length_drop]; omega))⟩))) ?_
      refine AXl.qt rfl (by decide : (5:Nat) < 18) (Still.qt (s_assign _)) ?_
      refine AXl.nm_f0 ?_
      refine AXl.nil ?_
      refine hK16 _ ?_
      clear hK16 K16
      refine Ethen.n ?_
      clear hK3 K3
      refine ⟨k + 1, ⟨by omega, ?_⟩, by omega, (by refine ⟨?_, ?_, ?_, ?_, ?_, ?_⟩ <;> (simp [subE, lk, AV.low, C.low, LB.low] <;> fail))⟩
      rw [drop_cons hk] at hinv; simp only [List.all_cons, hc13, Bool.true_and] at hinv
      exact hinv
  · try simp only [decide_eq_true_eq, decide_eq_false_iff_not, Bool.not_eq_true', Bool.not_eq_false', Int.not_lt, Int.not_le, ne_eq, Decidable.not_not, bne_iff_ne, beq_iff_eq, Bool.and_eq_true, Bool.or_eq_true, Bool.and_eq_false_iff, Bool.or_eq_false_iff, Bool.not_not, Ax.u8eq] at hc9
    refine AXc.exit ?_
    refine Ethen.e ?_
    clear hK6 K6
    refine Ethen.e ?_
    refine EinBlock.hit ?_
    refine Ethen.n ?_
    refine hK3 _ ?_
    clear hK3 K3
    refine AXc.seq fun K17 hK17 => ?_
    refine AXc.region' fun K18 hK18 => ?_
    refine AXl.qt rfl (by decide : (4:Nat) < 18) (Still.qt (s_assign _)) ?_
    refine AXl.nm_f0 ?_
    refine AXl.nil ?_
    refine hK18 _ ?_
    clear hK18 K18
    refine Ethen.n ?_
    refine hK17 _ ?_
    clear hK17 K17
    refine AXc.ret ?_
    refine Fin.ret rfl rfl ?_
    first
      | (rw [← hinv, drop_cons hk, List.all_cons, hc9]; rfl)
      | (rw [← hinv, drop_end (by omega)]; rfl)
end Go.Proofs
