/- Part of a proof about this program; no condition of its own. -/
import Derived.Test.YtjaooadhjmlhnaaDoorRDe
import Derived.Test.YtjaooadhjmlhnaaDoorRWe
import Derived.Test.YtjaooadhjmlhnaaDoorRWf
import Derived.Test.YtjaooadhjmlhnaaDoorProg
set_option linter.all false
namespace Go.Proofs
open Go Go.Ax Go.Rl
theorem fdT_27_4_g : fdT Tryd.prog 27 4 = some 4 := by kernel_rfl
theorem ldT_25_g : ldT Tryd.prog 25 = some none := by kernel_rfl
theorem slT_22_g : slT Tryd.prog 22 = some (29, 7) := by kernel_rfl
theorem fdT_29_0_g : fdT Tryd.prog 29 0 = some 0 := by kernel_rfl
theorem ldT_9_g : ldT Tryd.prog 9 = some none := by kernel_rfl
theorem fdT_29_3_g : fdT Tryd.prog 29 3 = some 3 := by kernel_rfl
theorem fdT_29_4_g : fdT Tryd.prog 29 4 = some 4 := by kernel_rfl
theorem fdT_29_5_g : fdT Tryd.prog 29 5 = some 5 := by kernel_rfl
theorem slT_25_g : slT Tryd.prog 25 = some (45, 4) := by kernel_rfl
theorem fdT_45_2_g : fdT Tryd.prog 45 2 = some 2 := by kernel_rfl
theorem ldT_43_g : ldT Tryd.prog 43 = some none := by kernel_rfl
theorem fdT_45_0_g : fdT Tryd.prog 45 0 = some 0 := by kernel_rfl
theorem ldT_29_g : ldT Tryd.prog 29 = some (some 7) := by kernel_rfl
theorem zC_29_g : zeroC Tryd.prog 29 = some [.d (.str []), .d (.bool false), .d (.bool false), .d (.str []), .d (.str []), .d (.str []), .d (.int .i64 0)] := by kernel_rfl
theorem sz_29_g : (Tryd.prog.info? 29).map (·.size) = some 7 := by kernel_rfl
theorem mixed_g : Tryd.prog.follows .mixedOrders = true := by kernel_rfl
theorem fdT_29_6_g : fdT Tryd.prog 29 6 = some 6 := by kernel_rfl
theorem ldT_3_g : ldT Tryd.prog 3 = some none := by kernel_rfl
theorem AXl.nm_g0 {P : Program} {pm : Pm} {ops : Array Oper} {rest : List Oper} {st st' : St} {K : St → Prop} (hk : AXl P pm ops rest st' K) (he : st = st' := by first | (simp only [St.put, putE, U, del, lk, ev, cAV, lkG, rsAV, rvAV, ↓reduceIte, Nat.reduceEqDiff, Nat.reduceAdd, Nat.reduceMul, List.length_map, List.length_cons, List.length_nil, List.getElem_map, Int.toNat_natCast, List.cons_append, List.nil_append, List.set_cons_zero, List.set_cons_succ, splice, List.take_succ_cons, List.take_zero, List.drop_succ_cons, List.drop_zero, Nat.zero_add, Nat.add_zero, List.map_cons, List.map_nil, List.take_nil, List.drop_nil, List.append_nil, Problem.ds, TagRule.ds, Fld.ds, Sub.ds, Rec.ds]; done) | (simp only [St.put, putE, U, del, lk, ev, cAV, lkG, rsAV, rvAV, ↓reduceIte, Nat.reduceEqDiff, Nat.reduceAdd, Nat.reduceMul, List.length_map, List.length_cons, List.length_nil, List.getElem_map, Int.toNat_natCast, List.cons_append, List.nil_append, List.set_cons_zero, List.set_cons_succ, splice, List.take_succ_cons, List.take_zero, List.drop_succ_cons, List.drop_zero, Nat.zero_add, Nat.add_zero, List.map_cons, List.map_nil, List.take_nil, List.drop_nil, List.append_nil, Problem.ds, TagRule.ds, Fld.ds, Sub.ds, Rec.ds]; rfl) | rfl) : AXl P pm ops rest st K := he ▸ hk
theorem AXd.nm_g0 {P : Program} {pm : Pm} {h : List LB} {ops : Array Oper} {pre : List Oper} {ρ ρ' : List (Nat × AV)} {Kd : List (Nat × AV) → Prop} (hk : AXd P pm h ops pre ρ' Kd) (he : ρ = ρ' := by first | (simp only [St.put, putE, U, del, lk, ev, cAV, lkG, rsAV, rvAV, ↓reduceIte, Nat.reduceEqDiff, Nat.reduceAdd, Nat.reduceMul, List.length_map, List.length_cons, List.length_nil, List.getElem_map, Int.toNat_natCast, List.cons_append, List.nil_append, List.set_cons_zero, List.set_cons_succ, splice, List.take_succ_cons, List.take_zero, List.drop_succ_cons, List.drop_zero, Nat.zero_add, Nat.add_zero, List.map_cons, List.map_nil, List.take_nil, List.drop_nil, List.append_nil, Problem.ds, TagRule.ds, Fld.ds, Sub.ds, Rec.ds]; done) | (simp only [St.put, putE, U, del, lk, ev, cAV, lkG, rsAV, rvAV, ↓reduceIte, Nat.reduceEqDiff, Nat.reduceAdd, Nat.reduceMul, List.length_map, List.length_cons, List.length_nil, List.getElem_map, Int.toNat_natCast, List.cons_append, List.nil_append, List.set_cons_zero, List.set_cons_succ, splice, List.take_succ_cons, List.take_zero, List.drop_succ_cons, List.drop_zero, Nat.zero_add, Nat.add_zero, List.map_cons, List.map_nil, List.take_nil, List.drop_nil, List.append_nil, Problem.ds, TagRule.ds, Fld.ds, Sub.ds, Rec.ds]; rfl) | rfl) : AXd P pm h ops pre ρ Kd := he ▸ hk
set_option maxHeartbeats 1600000 in
/-- The contract of library libraryref09.Small. -/
theorem c9 {Γ : List (Nat × List D)} (l : List TagRule) (r : Rec) : AFn Tryd.prog Γ 9 [.c (.d (.lst 7 (l.map TagRule.ds))), .agg (r.ds.map C.d)] [.d (.bool (smallB l r.fields))] := by
  refine AFn.of_body0 (n := 81) (res := [.tmp 4]) Tryd.func9 (by kernel_rfl) rfl Tryd.ntmps9 (by rw [Tryd.results9]) (by simp) ?_
  simp only [envOf, Nat.reduceAdd]
  refine AXc.seq fun K1 hK1 => ?_
  refine AXc.region' fun K2 hK2 => ?_
  refine AXl.box rfl (by decide : (3:Nat) < 81) ?_
  refine AXl.qt rfl (by decide : (4:Nat) < 81) (Still.qt (s_assign _)) ?_
  refine AXl.nm_g0 ?_
  refine AXl.nil ?_
  refine hK2 _ ?_
  clear hK2 K2
  refine Ethen.n ?_
  refine hK1 _ ?_
  clear hK1 K1
  refine AXc.seq fun K3 hK3 => ?_
  refine AXc.seq fun K4 hK4 => ?_
  refine AXc.region' fun K5 hK5 => ?_
  refine AXl.qt rfl (by decide : (7:Nat) < 81) (Still.qt (s_move _)) ?_
  first
    | refine AXl.qt rfl (by decide : (8:Nat) < 81) (Still.qt (s_len _ _ Tryd.underlying22 rfl)) ?_
    | refine AXl.qt rfl (by decide : (8:Nat) < 81) (Still.qt (s_len_nil _ _ Tryd.underlying22 rfl)) ?_
  refine AXl.qt rfl (by decide : (9:Nat) < 81) (Still.qt (s_icmp _ _ _ _ _ rfl rfl rfl)) ?_
  refine AXl.qt rfl (by decide : (10:Nat) < 81) (Still.qt (s_move _)) ?_
  refine AXl.nm_g0 ?_
  refine AXl.split 10 _ rfl (fun hg6 => ?_) (fun hg6 => ?_)
  · try simp only [decide_eq_true_eq, decide_eq_false_iff_not, Bool.not_eq_true', Bool.not_eq_false', Int.not_lt, Int.not_le, ne_eq, Decidable.not_not, bne_iff_ne, beq_iff_eq, Bool.and_eq_true, Bool.or_eq_true, Bool.and_eq_false_iff, Bool.or_eq_false_iff, Bool.not_not, Ax.u8eq] at hg6
    simp only [del, ↓reduceIte, Nat.reduceEqDiff]
    refine AXl.skip_guard (by decide : (11:Nat) < 81) rfl (by kernel_rfl) ?_
    refine AXl.skip_guard (by decide : (12:Nat) < 81) rfl (by kernel_rfl) ?_
    refine AXl.skip_guard (by decide : (13:Nat) < 81) rfl (by kernel_rfl) ?_
    refine AXl.skip_guard (by decide : (14:Nat) < 81) rfl (by kernel_rfl) ?_
    refine AXl.qt rfl (by decide : (15:Nat) < 81) (Still.qt (s_pick_t _ _ _ rfl)) ?_
    refine AXl.nm_g0 ?_
    refine AXl.nil ?_
    refine hK5 _ ?_
    clear hK5 K5
    refine Ethen.n ?_
    refine hK4 _ ?_
    clear hK4 K4
    refine AXc.cond_t rfl ?_
    refine AXc.seq fun K7 hK7 => ?_
    refine AXc.region' fun K8 hK8 => ?_
    refine AXl.qt rfl (by decide : (4:Nat) < 81) (Still.qt (s_assign _)) ?_
    refine AXl.nm_g0 ?_
    refine AXl.nil ?_
    refine hK8 _ ?_
    clear hK8 K8
    refine Ethen.n ?_
    refine hK7 _ ?_
    clear hK7 K7
    refine AXc.ret ?_
    refine Ethen.r ?_
    clear hK3 K3
    refine Fin.ret rfl rfl ?_
    refine congrArg (fun x => [RV.d (.bool x)]) ?_
    symm
    unfold smallB
    first
      | (rw [decide_eq_false (by omega), Bool.false_and])
      | (rw [decide_eq_true (by omega), decide_eq_false (by omega), Bool.false_and, Bool.true_and])
      | (have e : okRB l[k] = false := by unfold okRB; rw [decide_eq_false_iff_not]; omega
         rw [← hinv, e, Bool.false_and, Bool.false_and, Bool.and_false, Bool.and_false])
      | (have e : okFB r.fields[k] = false := by unfold okFB; rw [decide_eq_false_iff_not]; omega
         rw [← hinv, e, Bool.false_and, Bool.and_false, Bool.and_false, Bool.and_false])
      | (have e : r.fields.all okFB = true := by rw [← hinv, drop_end (by omega)]; rfl
         rw [e, hl1, decide_eq_true (by omega), decide_eq_true (by omega)]; rfl)
  · try simp only [decide_eq_true_eq, decide_eq_false_iff_not, Bool.not_eq_true', Bool.not_eq_false', Int.not_lt, Int.not_le, ne_eq, Decidable.not_not, bne_iff_ne, beq_iff_eq, Bool.and_eq_true, Bool.or_eq_true, Bool.and_eq_false_iff, Bool.or_eq_false_iff, Bool.not_not, Ax.u8eq] at hg6
    simp only [del, ↓reduceIte, Nat.reduceEqDiff]
    first
      | refine AXl.qt_guard (by decide : (11:Nat) < 81) rfl (by kernel_rfl) (Still.qt (s_field_loc _ _ _ fdT_27_4_g rfl)) ?_
      | refine AXl.qt_guard (by decide : (11:Nat) < 81) rfl (by kernel_rfl) (Still.qt (s_field_ptr _ _ _ fdT_27_4_g rfl)) ?_
      | refine AXl.qt_guard (by decide : (11:Nat) < 81) rfl (by kernel_rfl) (Still.qt (s_field_row _ _ _ fdT_27_4_g rfl rfl)) ?_
    first
      | refine AXl.qt_guard (by decide : (12:Nat) < 81) rfl (by kernel_rfl) (Still.qt (s_load1 _ _ ldT_25_g rfl)) ?_
      | refine AXl.qt_guard (by decide : (12:Nat) < 81) rfl (by kernel_rfl) (Still.qt (s_load1_row _ _ ldT_25_g rfl rfl (by first | rfl | exact List.getElem?_eq_getElem (by omega)) rfl)) ?_
    first
      | refine AXl.qt_guard (by decide : (13:Nat) < 81) rfl (by kernel_rfl) (Still.qt (s_len _ _ Tryd.underlying25 rfl)) ?_
      | refine AXl.qt_guard (by decide : (13:Nat) < 81) rfl (by kernel_rfl) (Still.qt (s_len_nil _ _ Tryd.underlying25 rfl)) ?_
    refine AXl.qt_guard (by decide : (14:Nat) < 81) rfl (by kernel_rfl) (Still.qt (s_icmp _ _ _ _ _ rfl rfl rfl)) ?_
    refine AXl.qt rfl (by decide : (15:Nat) < 81) (Still.qt (s_pick_f _ _ _ rfl)) ?_
    refine AXl.nm_g0 ?_
    refine AXl.nil ?_
    refine hK5 _ ?_
    clear hK5 K5
    refine Ethen.n ?_
    refine hK4 _ ?_
    clear hK4 K4
    refine AXc.cond rfl (fun hc9 => ?_) (fun hc9 => ?_)
    · try simp only [decide_eq_true_eq, decide_eq_false_iff_not, Bool.not_eq_true', Bool.not_eq_false', Int.not_lt, Int.not_le, ne_eq, Decidable.not_not, bne_iff_ne, beq_iff_eq, Bool.and_eq_true, Bool.or_eq_true, Bool.and_eq_false_iff, Bool.or_eq_false_iff, Bool.not_not, Ax.u8eq] at hc9
      refine AXc.seq fun K10 hK10 => ?_
      refine AXc.region' fun K11 hK11 => ?_
      refine AXl.qt rfl (by decide : (4:Nat) < 81) (Still.qt (s_assign _)) ?_
      refine AXl.nm_g0 ?_
      refine AXl.nil ?_
      refine hK11 _ ?_
      clear hK11 K11
      refine Ethen.n ?_
      refine hK10 _ ?_
      clear hK10 K10
      refine AXc.ret ?_
      refine Ethen.r ?_
      clear hK3 K3
      refine Fin.ret rfl rfl ?_
      refine congrArg (fun x => [RV.d (.bool x)]) ?_
      symm
      unfold smallB
      first
        | (rw [decide_eq_false (by omega), Bool.false_and])
        | (rw [decide_eq_true (by omega), decide_eq_false (by omega), Bool.false_and, Bool.true_and])
        | (have e : okRB l[k] = false := by unfold okRB; rw [decide_eq_false_iff_not]; omega
           rw [← hinv, e, Bool.false_and, Bool.false_and, Bool.and_false, Bool.and_false])
        | (have e : okFB r.fields[k] = false := by unfold okFB; rw [decide_eq_false_iff_not]; omega
           rw [← hinv, e, Bool.false_and, Bool.and_false, Bool.and_false, Bool.and_false])
        | (have e : r.fields.all okFB = true := by rw [← hinv, drop_end (by omega)]; rfl
           rw [e, hl1, decide_eq_true (by omega), decide_eq_true (by omega)]; rfl)
    · try simp only [decide_eq_true_eq, decide_eq_false_iff_not, Bool.not_eq_true', Bool.not_eq_false', Int.not_lt, Int.not_le, ne_eq, Decidable.not_not, bne_iff_ne, beq_iff_eq, Bool.and_eq_true, Bool.or_eq_true, Bool.and_eq_false_iff, Bool.or_eq_false_iff, Bool.not_not, Ax.u8eq] at hc9
      refine AXc.skip ?_
      refine Ethen.n ?_
      refine hK3 _ ?_
      clear hK3 K3
      refine AXc.seq fun K12 hK12 => ?_
      refine AXc.seq fun K13 hK13 => ?_
      refine AXc.region' fun K14 hK14 => ?_
      refine AXl.qt rfl (by decide : (5:Nat) < 81) (Still.qt (s_assign _)) ?_
      refine AXl.nm_g0 ?_
      refine AXl.nil ?_
      refine hK14 _ ?_
      clear hK14 K14
      refine Ethen.n ?_
      refine hK13 _ ?_
      clear hK13 K13
      refine AXc.block ?_
      refine AXc.loop (S := Nat) (fun k => ⟨[(0, .c (.d (.lst 7 (l.map TagRule.ds)))), (3, .c (.loc 0 0)), (5, .c (.d (.int .i64 k)))], [.box 27 (r.ds.map C.d)]⟩) (fun k => k ≤ l.length ∧ (l.drop k).all okRB = l.all okRB) (fun k => l.length - k) 0 ⟨by omega, by simp⟩ (by refine ⟨?_, ?_, ?_, ?_, ?_, ?_⟩ <;> (simp [subE, lk, AV.low, C.low, LB.low, Problem.ds, TagRule.ds, Fld.ds, Sub.ds, Rec.ds] <;> fail)) ?_
      rintro k ⟨hk0, hinv⟩
      try simp only [Problem.ds, TagRule.ds, Fld.ds, Sub.ds, Rec.ds, List.map_cons, List.map_nil]
      refine AXc.seq fun K15 hK15 => ?_
      refine AXc.seq fun K16 hK16 => ?_
      refine AXc.region' fun K17 hK17 => ?_
      refine AXl.qt rfl (by decide : (16:Nat) < 81) (Still.qt (s_move _)) ?_
      refine AXl.qt rfl (by decide : (17:Nat) < 81) (Still.qt (s_move _)) ?_
      first
        | refine AXl.qt rfl (by decide : (18:Nat) < 81) (Still.qt (s_len _ _ Tryd.underlying22 rfl)) ?_
        | refine AXl.qt rfl (by decide : (18:Nat) < 81) (Still.qt (s_len_nil _ _ Tryd.underlying22 rfl)) ?_
      refine AXl.qt rfl (by decide : (19:Nat) < 81) (Still.qt (s_icmp _ _ _ _ _ rfl rfl rfl)) ?_
      refine AXl.nm_g0 ?_
      refine AXl.nil ?_
      refine hK17 _ ?_
      clear hK17 K17
      refine Ethen.n ?_
      refine hK16 _ ?_
      clear hK16 K16
      refine AXc.cond rfl (fun hc18 => ?_) (fun hc18 => ?_)
      · try simp only [decide_eq_true_eq, decide_eq_false_iff_not, Bool.not_eq_true', Bool.not_eq_false', Int.not_lt, Int.not_le, ne_eq, Decidable.not_not, bne_iff_ne, beq_iff_eq, Bool.and_eq_true, Bool.or_eq_true, Bool.and_eq_false_iff, Bool.or_eq_false_iff, Bool.not_not, Ax.u8eq] at hc18
        have hk : k < l.length := by omega
        rw [drop_cons hk, List.all_cons] at hinv
        refine AXc.skip ?_
        refine Ethen.n ?_
        refine hK15 _ ?_
        clear hK15 K15
        refine AXc.seq fun K19 hK19 => ?_
        refine AXc.block ?_
        refine AXc.seq fun K20 hK20 => ?_
        refine AXc.region' fun K21 hK21 => ?_
        refine AXl.qt rfl (by decide : (22:Nat) < 81) (Still.qt (s_move _)) ?_
        refine AXl.qt rfl (by decide : (23:Nat) < 81) (Still.qt (s_move _)) ?_
        first
          | refine AXl.qt rfl (by decide : (24:Nat) < 81) (Still.qt (s_index _ _ _ slT_22_g (.inl rfl) rfl rfl (by first | omega | (simp only [List.length_map, List.length_cons, List.length_nil, List.length_append, List.length_take, List.length_drop]; omega)) (List.getElem?_eq_getElem (by first | omega | (simp only [List.length_map, List.length_cons, List.length_nil, List.length_append, List.length_take, List.length_drop]; omega))))) ?_
          | refine AXl.qt rfl (by decide : (24:Nat) < 81) (Still.qt (s_index _ _ _ slT_22_g (.inr rfl) rfl rfl (by first | omega | (simp only [List.length_map, List.length_cons, List.length_nil, List.length_append, List.length_take, List.length_drop]; omega)) (List.getElem?_eq_getElem (by first | omega | (simp only [List.length_map, List.length_cons, List.length_nil, List.length_append, List.length_take, List.length_drop]; omega))))) ?_
          | refine AXl.qt rfl (by decide : (24:Nat) < 81) (Still.qt (s_index_own _ _ _ slT_22_g rfl rfl rfl rfl (by first | omega | (simp only [List.length_map, List.length_cons, List.length_nil, List.length_append, List.length_take, List.length_drop]; omega)) (by first | omega | (simp only [List.length_map, List.length_cons, List.length_nil, List.length_append, List.length_take, List.length_drop]; omega)))) ?_
        refine AXl.nm_g0 ?_
        first
          | refine AXl.qt rfl (by decide : (25:Nat) < 81) (Still.qt (s_field_loc _ _ _ fdT_29_0_g rfl)) ?_
          | refine AXl.qt rfl (by decide : (25:Nat) < 81) (Still.qt (s_field_ptr _ _ _ fdT_29_0_g rfl)) ?_
          | refine AXl.qt rfl (by decide : (25:Nat) < 81) (Still.qt (s_field_row _ _ _ fdT_29_0_g rfl rfl)) ?_
        first
          | refine AXl.qt rfl (by decide : (26:Nat) < 81) (Still.qt (s_load1 _ _ ldT_9_g rfl)) ?_
          | refine AXl.qt rfl (by decide : (26:Nat) < 81) (Still.qt (s_load1_row _ _ ldT_9_g rfl rfl (by first | rfl | exact List.getElem?_eq_getElem (by omega)) rfl)) ?_
        refine AXl.qt rfl (by decide : (27:Nat) < 81) (Still.qt (s_len_str _ _ Tryd.underlying9 rfl)) ?_
        refine AXl.qt rfl (by decide : (28:Nat) < 81) (Still.qt (s_icmp _ _ _ _ _ rfl rfl rfl)) ?_
        refine AXl.qt rfl (by decide : (29:Nat) < 81) (Still.qt (s_move _)) ?_
        refine AXl.nm_g0 ?_
        refine AXl.split 29 _ rfl (fun hg22 => ?_) (fun hg22 => ?_)
        · try simp only [decide_eq_true_eq, decide_eq_false_iff_not, Bool.not_eq_true', Bool.not_eq_false', Int.not_lt, Int.not_le, ne_eq, Decidable.not_not, bne_iff_ne, beq_iff_eq, Bool.and_eq_true, Bool.or_eq_true, Bool.and_eq_false_iff, Bool.or_eq_false_iff, Bool.not_not, Ax.u8eq] at hg22
          simp only [del, ↓reduceIte, Nat.reduceEqDiff]
          refine AXl.skip_guard (by decide : (30:Nat) < 81) rfl (by kernel_rfl) ?_
          refine AXl.skip_guard (by decide : (31:Nat) < 81) rfl (by kernel_rfl) ?_
          refine AXl.skip_guard (by decide : (32:Nat) < 81) rfl (by kernel_rfl) ?_
          refine AXl.skip_guard (by decide : (33:Nat) < 81) rfl (by kernel_rfl) ?_
          refine AXl.skip_guard (by decide : (34:Nat) < 81) rfl (by kernel_rfl) ?_
          refine AXl.skip_guard (by decide : (35:Nat) < 81) rfl (by kernel_rfl) ?_
          refine AXl.skip_guard (by decide : (36:Nat) < 81) rfl (by kernel_rfl) ?_
          refine AXl.qt rfl (by decide : (37:Nat) < 81) (Still.qt (s_pick_t _ _ _ rfl)) ?_
          refine AXl.qt rfl (by decide : (38:Nat) < 81) (Still.qt (s_move _)) ?_
          refine AXl.skip_guard (by decide : (39:Nat) < 81) rfl (by kernel_rfl) ?_
          refine AXl.skip_guard (by decide : (40:Nat) < 81) rfl (by kernel_rfl) ?_
          refine AXl.skip_guard (by decide : (41:Nat) < 81) rfl (by kernel_rfl) ?_
          refine AXl.nm_g0 ?_
          refine AXl.skip_guard (by decide : (42:Nat) < 81) rfl (by kernel_rfl) ?_
          refine AXl.skip_guard (by decide : (43:Nat) < 81) rfl (by kernel_rfl) ?_
          refine AXl.skip_guard (by decide : (44:Nat) < 81) rfl (by kernel_rfl) ?_
          refine AXl.skip_guard (by decide : (45:Nat) < 81) rfl (by kernel_rfl) ?_
          refine AXl.qt rfl (by decide : (46:Nat) < 81) (Still.qt (s_pick_t _ _ _ rfl)) ?_
          refine AXl.qt rfl (by decide : (47:Nat) < 81) (Still.qt (s_move _)) ?_
          refine AXl.skip_guard (by decide : (48:Nat) < 81) rfl (by kernel_rfl) ?_
          refine AXl.skip_guard (by decide : (49:Nat) < 81) rfl (by kernel_rfl) ?_
          refine AXl.skip_guard (by decide : (50:Nat) < 81) rfl (by kernel_rfl) ?_
          refine AXl.skip_guard (by decide : (51:Nat) < 81) rfl (by kernel_rfl) ?_
          refine AXl.skip_guard (by decide : (52:Nat) < 81) rfl (by kernel_rfl) ?_
          refine AXl.skip_guard (by decide : (53:Nat) < 81) rfl (by kernel_rfl) ?_
          refine AXl.nm_g0 ?_
          refine AXl.skip_guard (by decide : (54:Nat) < 81) rfl (by kernel_rfl) ?_
          refine AXl.qt rfl (by decide : (55:Nat) < 81) (Still.qt (s_pick_t _ _ _ rfl)) ?_
          refine AXl.nm_g0 ?_
          refine AXl.nil ?_
          refine hK21 _ ?_
          clear hK21 K21
          refine Ethen.n ?_
          refine hK20 _ ?_
          clear hK20 K20
          refine AXc.cond_t rfl ?_
          refine AXc.seq fun K23 hK23 => ?_
          refine AXc.region' fun K24 hK24 => ?_
          refine AXl.qt rfl (by decide : (4:Nat) < 81) (Still.qt (s_assign _)) ?_
          refine AXl.nm_g0 ?_
          refine AXl.nil ?_
          refine hK24 _ ?_
          clear hK24 K24
          refine Ethen.n ?_
          refine hK23 _ ?_
          clear hK23 K23
          refine AXc.ret ?_
          refine EinBlock.r ?_
          refine Ethen.r ?_
          clear hK19 K19
          refine Ethen.r ?_
          refine EinBlock.r ?_
          refine Ethen.r ?_
          clear hK12 K12
          refine Fin.ret rfl rfl ?_
          refine congrArg (fun x => [RV.d (.bool x)]) ?_
          symm
          unfold smallB
          first
            | (rw [decide_eq_false (by omega), Bool.false_and])
            | (rw [decide_eq_true (by omega), decide_eq_false (by omega), Bool.false_and, Bool.true_and])
            | (have e : okRB l[k] = false := by unfold okRB; rw [decide_eq_false_iff_not]; omega
               rw [← hinv, e, Bool.false_and, Bool.false_and, Bool.and_false, Bool.and_false])
            | (have e : okFB r.fields[k] = false := by unfold okFB; rw [decide_eq_false_iff_not]; omega
               rw [← hinv, e, Bool.false_and, Bool.and_false, Bool.and_false, Bool.and_false])
            | (have e : r.fields.all okFB = true := by rw [← hinv, drop_end (by omega)]; rfl
               rw [e, hl1, decide_eq_true (by omega), decide_eq_true (by omega)]; rfl)
        · try simp only [decide_eq_true_eq, decide_eq_false_iff_not, Bool.not_eq_true', Bool.not_eq_false', Int.not_lt, Int.not_le, ne_eq, Decidable.not_not, bne_iff_ne, beq_iff_eq, Bool.and_eq_true, Bool.or_eq_true, Bool.and_eq_false_iff, Bool.or_eq_false_iff, Bool.not_not, Ax.u8eq] at hg22
          simp only [del, ↓reduceIte, Nat.reduceEqDiff]
          refine AXl.qt_guard (by decide : (30:Nat) < 81) rfl (by kernel_rfl) (Still.qt (s_move _)) ?_
          refine AXl.qt_guard (by decide : (31:Nat) < 81) rfl (by kernel_rfl) (Still.qt (s_move _)) ?_
          first
            | refine AXl.qt_guard (by decide : (32:Nat) < 81) rfl (by kernel_rfl) (Still.qt (s_index _ _ _ slT_22_g (.inl rfl) rfl rfl (by first | omega | (simp only [List.length_map, List.length_cons, List.length_nil, List.length_append, List.length_take, List.length_drop]; omega)) (List.getElem?_eq_getElem (by first | omega | (simp only [List.length_map, List.length_cons, List.length_nil, List.length_append, List.length_take, List.length_drop]; omega))))) ?_
            | refine AXl.qt_guard (by decide : (32:Nat) < 81) rfl (by kernel_rfl) (Still.qt (s_index _ _ _ slT_22_g (.inr rfl) rfl rfl (by first | omega | (simp only [List.length_map, List.length_cons, List.length_nil, List.length_append, List.length_take, List.length_drop]; omega)) (List.getElem?_eq_getElem (by first | omega | (simp only [List.length_map, List.length_cons, List.length_nil, List.length_append, List.length_take, List.length_drop]; omega))))) ?_
            | refine AXl.qt_guard (by decide : (32:Nat) < 81) rfl (by kernel_rfl) (Still.qt (s_index_own _ _ _ slT_22_g rfl rfl rfl rfl (by first | omega | (simp only [List.length_map, List.length_cons, List.length_nil, List.length_append, List.length_take, List.length_drop]; omega)) (by first | omega | (simp only [List.length_map, List.length_cons, List.length_nil, List.length_append, List.length_take, List.length_drop]; omega)))) ?_
          refine AXl.nm_g0 ?_
          first
            | refine AXl.qt_guard (by decide : (33:Nat) < 81) rfl (by kernel_rfl) (Still.qt (s_field_loc _ _ _ fdT_29_3_g rfl)) ?_
            | refine AXl.qt_guard (by decide : (33:Nat) < 81) rfl (by kernel_rfl) (Still.qt (s_field_ptr _ _ _ fdT_29_3_g rfl)) ?_
            | refine AXl.qt_guard (by decide : (33:Nat) < 81) rfl (by kernel_rfl) (Still.qt (s_field_row _ _ _ fdT_29_3_g rfl rfl)) ?_
          first
            | refine AXl.qt_guard (by decide : (34:Nat) < 81) rfl (by kernel_rfl) (Still.qt (s_load1 _ _ ldT_9_g rfl)) ?_
            | refine AXl.qt_guard (by decide : (34:Nat) < 81) rfl (by kernel_rfl) (Still.qt (s_load1_row _ _ ldT_9_g rfl rfl (by first | rfl | exact List.getElem?_eq_getElem (by omega)) rfl)) ?_
          refine AXl.qt_guard (by decide : (35:Nat) < 81) rfl (by kernel_rfl) (Still.qt (s_len_str _ _ Tryd.underlying9 rfl)) ?_
          refine AXl.qt_guard (by decide : (36:Nat) < 81) rfl (by kernel_rfl) (Still.qt (s_icmp _ _ _ _ _ rfl rfl rfl)) ?_
          refine AXl.qt rfl (by decide : (37:Nat) < 81) (Still.qt (s_pick_f _ _ _ rfl)) ?_
          refine AXl.qt rfl (by decide : (38:Nat) < 81) (Still.qt (s_move _)) ?_
          refine AXl.nm_g0 ?_
          refine AXl.split 38 _ rfl (fun hg25 => ?_) (fun hg25 => ?_)
          · try simp only [decide_eq_true_eq, decide_eq_false_iff_not, Bool.not_eq_true', Bool.not_eq_false', Int.not_lt, Int.not_le, ne_eq, Decidable.not_not, bne_iff_ne, beq_iff_eq, Bool.and_eq_true, Bool.or_eq_true, Bool.and_eq_false_iff, Bool.or_eq_false_iff, Bool.not_not, Ax.u8eq] at hg25
            simp only [del, ↓reduceIte, Nat.reduceEqDiff]
            refine AXl.skip_guard (by decide : (39:Nat) < 81) rfl (by kernel_rfl) ?_
            refine AXl.skip_guard (by decide : (40:Nat) < 81) rfl (by kernel_rfl) ?_
            refine AXl.skip_guard (by decide : (41:Nat) < 81) rfl (by kernel_rfl) ?_
            refine AXl.skip_guard (by decide : (42:Nat) < 81) rfl (by kernel_rfl) ?_
            refine AXl.skip_guard (by decide : (43:Nat) < 81) rfl (by kernel_rfl) ?_
            refine AXl.skip_guard (by decide : (44:Nat) < 81) rfl (by kernel_rfl) ?_
            refine AXl.skip_guard (by decide : (45:Nat) < 81) rfl (by kernel_rfl) ?_
            refine AXl.qt rfl (by decide : (46:Nat) < 81) (Still.qt (s_pick_t _ _ _ rfl)) ?_
            refine AXl.qt rfl (by decide : (47:Nat) < 81) (Still.qt (s_move _)) ?_
            refine AXl.skip_guard (by decide : (48:Nat) < 81) rfl (by kernel_rfl) ?_
            refine AXl.skip_guard (by decide : (49:Nat) < 81) rfl (by kernel_rfl) ?_
            refine AXl.skip_guard (by decide : (50:Nat) < 81) rfl (by kernel_rfl) ?_
            refine AXl.nm_g0 ?_
            refine AXl.skip_guard (by decide : (51:Nat) < 81) rfl (by kernel_rfl) ?_
            refine AXl.skip_guard (by decide : (52:Nat) < 81) rfl (by kernel_rfl) ?_
            refine AXl.skip_guard (by decide : (53:Nat) < 81) rfl (by kernel_rfl) ?_
            refine AXl.skip_guard (by decide : (54:Nat) < 81) rfl (by kernel_rfl) ?_
            refine AXl.qt rfl (by decide : (55:Nat) < 81) (Still.qt (s_pick_t _ _ _ rfl)) ?_
            refine AXl.nm_g0 ?_
            refine AXl.nil ?_
            refine hK21 _ ?_
            clear hK21 K21
            refine Ethen.n ?_
            refine hK20 _ ?_
            clear hK20 K20
            refine AXc.cond_t rfl ?_
            refine AXc.seq fun K26 hK26 => ?_
            refine AXc.region' fun K27 hK27 => ?_
            refine AXl.qt rfl (by decide : (4:Nat) < 81) (Still.qt (s_assign _)) ?_
            refine AXl.nm_g0 ?_
            refine AXl.nil ?_
            refine hK27 _ ?_
            clear hK27 K27
            refine Ethen.n ?_
            refine hK26 _ ?_
            clear hK26 K26
            refine AXc.ret ?_
            refine EinBlock.r ?_
            refine Ethen.r ?_
            clear hK19 K19
            refine Ethen.r ?_
            refine EinBlock.r ?_
            refine Ethen.r ?_
            clear hK12 K12
            refine Fin.ret rfl rfl ?_
            refine congrArg (fun x => [RV.d (.bool x)]) ?_
            symm
            unfold smallB
            first
              | (rw [decide_eq_false (by omega), Bool.false_and])
              | (rw [decide_eq_true (by omega), decide_eq_false (by omega), Bool.false_and, Bool.true_and])
              | (have e : okRB l[k] = false := by unfold okRB; rw [decide_eq_false_iff_not]; omega
                 rw [← hinv, e, Bool.false_and, Bool.false_and, Bool.and_false, Bool.and_false])
              | (have e : okFB r.fields[k] = false := by unfold okFB; rw [decide_eq_false_iff_not]; omega
                 rw [← hinv, e, Bool.false_and, Bool.and_false, Bool.and_false, Bool.and_false])
              | (have e : r.fields.all okFB = true := by rw [← hinv, drop_end (by omega)]; rfl
                 rw [e, hl1, decide_eq_true (by omega), decide_eq_true (by omega)]; rfl)
          · try simp only [decide_eq_true_eq, decide_eq_false_iff_not, Bool.not_eq_true', Bool.not_eq_false', Int.not_lt, Int.not_le, ne_eq, Decidable.not_not, bne_iff_ne, beq_iff_eq, Bool.and_eq_true, Bool.or_eq_true, Bool.and_eq_false_iff, Bool.or_eq_false_iff, Bool.not_not, Ax.u8eq] at hg25
            simp only [del, ↓reduceIte, Nat.reduceEqDiff]
            refine AXl.qt_guard (by decide : (39:Nat) < 81) rfl (by kernel_rfl) (Still.qt (s_move _)) ?_
            refine AXl.qt_guard (by decide : (40:Nat) < 81) rfl (by kernel_rfl) (Still.qt (s_move _)) ?_
            first
              | refine AXl.qt_guard (by decide : (41:Nat) < 81) rfl (by kernel_rfl) (Still.qt (s_index _ _ _ slT_22_g (.inl rfl) rfl rfl (by first | omega | (simp only [List.length_map, List.length_cons, List.length_nil, List.length_append, List.length_take, List.length_drop]; omega)) (List.getElem?_eq_getElem (by first | omega | (simp only [List.length_map, List.length_cons, List.length_nil, List.length_append, List.length_take, List.length_drop]; omega))))) ?_
              | refine AXl.qt_guard (by decide : (41:Nat) < 81) rfl (by kernel_rfl) (Still.qt (s_index _ _ _ slT_22_g (.inr rfl) rfl rfl (by first | omega | (simp only [List.length_map, List.length_cons, List.length_nil, List.length_append, List.length_take, List.length_drop]; omega)) (List.getElem?_eq_getElem (by first | omega | (simp only [List.length_map, List.length_cons, List.length_nil, List.length_append, List.length_take, List.length_drop]; omega))))) ?_
              | refine AXl.qt_guard (by decide : (41:Nat) < 81) rfl (by kernel_rfl) (Still.qt (s_index_own _ _ _ slT_22_g rfl rfl rfl rfl (by first | omega | (simp only [List.length_map, List.length_cons, List.length_nil, List.length_append, List.length_take, List.length_drop]; omega)) (by first | omega | (simp only [List.length_map, List.length_cons, List.length_nil, List.length_append, List.length_take, List.length_drop]; omega)))) ?_
            refine AXl.nm_g0 ?_
            first
              | refine AXl.qt_guard (by decide : (42:Nat) < 81) rfl (by kernel_rfl) (Still.qt (s_field_loc _ _ _ fdT_29_4_g rfl)) ?_
              | refine AXl.qt_guard (by decide : (42:Nat) < 81) rfl (by kernel_rfl) (Still.qt (s_field_ptr _ _ _ fdT_29_4_g rfl)) ?_
              | refine AXl.qt_guard (by decide : (42:Nat) < 81) rfl (by kernel_rfl) (Still.qt (s_field_row _ _ _ fdT_29_4_g rfl rfl)) ?_
            first
              | refine AXl.qt_guard (by decide : (43:Nat) < 81) rfl (by kernel_rfl) (Still.qt (s_load1 _ _ ldT_9_g rfl)) ?_
              | refine AXl.qt_guard (by decide : (43:Nat) < 81) rfl (by kernel_rfl) (Still.qt (s_load1_row _ _ ldT_9_g rfl rfl (by first | rfl | exact List.getElem?_eq_getElem (by omega)) rfl)) ?_
            refine AXl.qt_guard (by decide : (44:Nat) < 81) rfl (by kernel_rfl) (Still.qt (s_len_str _ _ Tryd.underlying9 rfl)) ?_
            refine AXl.qt_guard (by decide : (45:Nat) < 81) rfl (by kernel_rfl) (Still.qt (s_icmp _ _ _ _ _ rfl rfl rfl)) ?_
            refine AXl.qt rfl (by decide : (46:Nat) < 81) (Still.qt (s_pick_f _ _ _ rfl)) ?_
            refine AXl.qt rfl (by decide : (47:Nat) < 81) (Still.qt (s_move _)) ?_
            refine AXl.nm_g0 ?_
            refine AXl.split 47 _ rfl (fun hg28 => ?_) (fun hg28 => ?_)
            · try simp only [decide_eq_true_eq, decide_eq_false_iff_not, Bool.not_eq_true', Bool.not_eq_false', Int.not_lt, Int.not_le, ne_eq, Decidable.not_not, bne_iff_ne, beq_iff_eq, Bool.and_eq_true, Bool.or_eq_true, Bool.and_eq_false_iff, Bool.or_eq_false_iff, Bool.not_not, Ax.u8eq] at hg28
              simp only [del, ↓reduceIte, Nat.reduceEqDiff]
              refine AXl.skip_guard (by decide : (48:Nat) < 81) rfl (by kernel_rfl) ?_
              refine AXl.skip_guard (by decide : (49:Nat) < 81) rfl (by kernel_rfl) ?_
              refine AXl.skip_guard (by decide : (50:Nat) < 81) rfl (by kernel_rfl) ?_
              refine AXl.skip_guard (by decide : (51:Nat) < 81) rfl (by kernel_rfl) ?_
              refine AXl.skip_guard (by decide : (52:Nat) < 81) rfl (by kernel_rfl) ?_
              refine AXl.skip_guard (by decide : (53:Nat) < 81) rfl (by kernel_rfl) ?_
              refine AXl.skip_guard (by decide : (54:Nat) < 81) rfl (by kernel_rfl) ?_
              refine AXl.qt rfl (by decide : (55:Nat) < 81) (Still.qt (s_pick_t _ _ _ rfl)) ?_
              refine AXl.nm_g0 ?_
              refine AXl.nil ?_
              refine hK21 _ ?_
              clear hK21 K21
              refine Ethen.n ?_
              refine hK20 _ ?_
              clear hK20 K20
              refine AXc.cond_t rfl ?_
              refine AXc.seq fun K29 hK29 => ?_
              refine AXc.region' fun K30 hK30 => ?_
              refine AXl.qt rfl (by decide : (4:Nat) < 81) (Still.qt (s_assign _)) ?_
              refine AXl.nm_g0 ?_
              refine AXl.nil ?_
              refine hK30 _ ?_
              clear hK30 K30
              refine Ethen.n ?_
              refine hK29 _ ?_
              clear hK29 K29
              refine AXc.ret ?_
              refine EinBlock.r ?_
              refine Ethen.r ?_
              clear hK19 K19
              refine Ethen.r ?_
              refine EinBlock.r ?_
              refine Ethen.r ?_
              clear hK12 K12
              refine Fin.ret rfl rfl ?_
              refine congrArg (fun x => [RV.d (.bool x)]) ?_
              symm
              unfold smallB
              first
                | (rw [decide_eq_false (by omega), Bool.false_and])
                | (rw [decide_eq_true (by omega), decide_eq_false (by omega), Bool.false_and, Bool.true_and])
                | (have e : okRB l[k] = false := by unfold okRB; rw [decide_eq_false_iff_not]; omega
                   rw [← hinv, e, Bool.false_and, Bool.false_and, Bool.and_false, Bool.and_false])
                | (have e : okFB r.fields[k] = false := by unfold okFB; rw [decide_eq_false_iff_not]; omega
                   rw [← hinv, e, Bool.false_and, Bool.and_false, Bool.and_false, Bool.and_false])
                | (have e : r.fields.all okFB = true := by rw [← hinv, drop_end (by omega)]; rfl
                   rw [e, hl1, decide_eq_true (by omega), decide_eq_true (by omega)]; rfl)
            · try simp only [decide_eq_true_eq, decide_eq_false_iff_not, Bool.not_eq_true', Bool.not_eq_false', Int.not_lt, Int.not_le, ne_eq, Decidable.not_not, bne_iff_ne, beq_iff_eq, Bool.and_eq_true, Bool.or_eq_true, Bool.and_eq_false_iff, Bool.or_eq_false_iff, Bool.not_not, Ax.u8eq] at hg28
              simp only [del, ↓reduceIte, Nat.reduceEqDiff]
              refine AXl.qt_guard (by decide : (48:Nat) < 81) rfl (by kernel_rfl) (Still.qt (s_move _)) ?_
              refine AXl.qt_guard (by decide : (49:Nat) < 81) rfl (by kernel_rfl) (Still.qt (s_move _)) ?_
              first
                | refine AXl.qt_guard (by decide : (50:Nat) < 81) rfl (by kernel_rfl) (Still.qt (s_index _ _ _ slT_22_g (.inl rfl) rfl rfl (by first | omega | (simp only [List.length_map, List.length_cons, List.length_nil, List.length_append, List.length_take, List.length_drop]; omega)) (List.getElem?_eq_getElem (by first | omega | (simp only [List.length_map, List.length_cons, List.length_nil, List.length_append, List.length_take, List.length_drop]; omega))))) ?_
                | refine AXl.qt_guard (by decide : (50:Nat) < 81) rfl (by kernel_rfl) (Still.qt (s_index _ _ _ slT_22_g (.inr rfl) rfl rfl (by first | omega | (simp only [List.length_map, List.length_cons, List.length_nil, List.length_append, List.length_take, List.length_drop]; omega)) (List.getElem?_eq_getElem (by first | omega | (simp only [List.length_map, List.length_cons, List.length_nil, List.length_append, List.length_take, List.length_drop]; omega))))) ?_
                | refine AXl.qt_guard (by decide : (50:Nat) < 81) rfl (by kernel_rfl) (Still.qt (s_index_own _ _ _ slT_22_g rfl rfl rfl rfl (by first | omega | (simp only [List.length_map, List.length_cons, List.length_nil, List.length_append, List.length_take, List.length_drop]; omega)) (by first | omega | (simp only [List.length_map, List.length_cons, List.length_nil, List.length_append, List.length_take, List.length_drop]; omega)))) ?_
              refine AXl.nm_g0 ?_
              first
                | refine AXl.qt_guard (by decide : (51:Nat) < 81) rfl (by kernel_rfl) (Still.qt (s_field_loc _ _ _ fdT_29_5_g rfl)) ?_
                | refine AXl.qt_guard (by decide : (51:Nat) < 81) rfl (by kernel_rfl) (Still.qt (s_field_ptr _ _ _ fdT_29_5_g rfl)) ?_
                | refine AXl.qt_guard (by decide : (51:Nat) < 81) rfl (by kernel_rfl) (Still.qt (s_field_row _ _ _ fdT_29_5_g rfl rfl)) ?_
              first
                | refine AXl.qt_guard (by decide : (52:Nat) < 81) rfl (by kernel_rfl) (Still.qt (s_load1 _ _ ldT_9_g rfl)) ?_
                | refine AXl.qt_guard (by decide : (52:Nat) < 81) rfl (by kernel_rfl) (Still.qt (s_load1_row _ _ ldT_9_g rfl rfl (by first | rfl | exact List.getElem?_eq_getElem (by omega)) rfl)) ?_
              refine AXl.qt_guard (by decide : (53:Nat) < 81) rfl (by kernel_rfl) (Still.qt (s_len_str _ _ Tryd.underlying9 rfl)) ?_
              refine AXl.qt_guard (by decide : (54:Nat) < 81) rfl (by kernel_rfl) (Still.qt (s_icmp _ _ _ _ _ rfl rfl rfl)) ?_
              refine AXl.qt rfl (by decide : (55:Nat) < 81) (Still.qt (s_pick_f _ _ _ rfl)) ?_
              refine AXl.nm_g0 ?_
              refine AXl.nil ?_
              refine hK21 _ ?_
              clear hK21 K21
              refine Ethen.n ?_
              refine hK20 _ ?_
              clear hK20 K20
              refine AXc.cond rfl (fun hc31 => ?_) (fun hc31 => ?_)
              · try simp only [decide_eq_true_eq, decide_eq_false_iff_not, Bool.not_eq_true', Bool.not_eq_false', Int.not_lt, Int.not_le, ne_eq, Decidable.not_not, bne_iff_ne, beq_iff_eq, Bool.and_eq_true, Bool.or_eq_true, Bool.and_eq_false_iff, Bool.or_eq_false_iff, Bool.not_not, Ax.u8eq] at hc31
                refine AXc.seq fun K32 hK32 => ?_
                refine AXc.region' fun K33 hK33 => ?_
                refine AXl.qt rfl (by decide : (4:Nat) < 81) (Still.qt (s_assign _)) ?_
                refine AXl.nm_g0 ?_
                refine AXl.nil ?_
                refine hK33 _ ?_
                clear hK33 K33
                refine Ethen.n ?_
                refine hK32 _ ?_
                clear hK32 K32
                refine AXc.ret ?_
                refine EinBlock.r ?_
                refine Ethen.r ?_
                clear hK19 K19
                refine Ethen.r ?_
                refine EinBlock.r ?_
                refine Ethen.r ?_
                clear hK12 K12
                refine Fin.ret rfl rfl ?_
                refine congrArg (fun x => [RV.d (.bool x)]) ?_
                symm
                unfold smallB
                first
                  | (rw [decide_eq_false (by omega), Bool.false_and])
                  | (rw [decide_eq_true (by omega), decide_eq_false (by omega), Bool.false_and, Bool.true_and])
                  | (have e : okRB l[k] = false := by unfold okRB; rw [decide_eq_false_iff_not]; omega
                     rw [← hinv, e, Bool.false_and, Bool.false_and, Bool.and_false, Bool.and_false])
                  | (have e : okFB r.fields[k] = false := by unfold okFB; rw [decide_eq_false_iff_not]; omega
                     rw [← hinv, e, Bool.false_and, Bool.and_false, Bool.and_false, Bool.and_false])
                  | (have e : r.fields.all okFB = true := by rw [← hinv, drop_end (by omega)]; rfl
                     rw [e, hl1, decide_eq_true (by omega), decide_eq_true (by omega)]; rfl)
              · try simp only [decide_eq_true_eq, decide_eq_false_iff_not, Bool.not_eq_true', Bool.not_eq_false', Int.not_lt, Int.not_le, ne_eq, Decidable.not_not, bne_iff_ne, beq_iff_eq, Bool.and_eq_true, Bool.or_eq_true, Bool.and_eq_false_iff, Bool.or_eq_false_iff, Bool.not_not, Ax.u8eq] at hc31
                refine AXc.skip ?_
                refine EinBlock.n ?_
                refine Ethen.n ?_
                refine hK19 _ ?_
                clear hK19 K19
                refine AXc.region' fun K34 hK34 => ?_
                refine AXl.qt rfl (by decide : (20:Nat) < 81) (Still.qt (s_move _)) ?_
                refine AXl.qt rfl (by decide : (21:Nat) < 81) (Still.qt (s_iar _ _ _ _ _ rfl rfl rfl (IntWalk.i64_in _ ⟨(by first | omega | (simp only [List.length_map, List.length_cons, List.length_nil, List.length_append, List.length_take, List.length_drop]; omega)), (by first | omega | (simp only [List.length_map, List.length_cons, List.length_nil, List.length_append, List.length_take, List.length_drop]; omega))⟩))) ?_
                refine AXl.qt rfl (by decide : (5:Nat) < 81) (Still.qt (s_assign _)) ?_
                refine AXl.nm_g0 ?_
                refine AXl.nil ?_
                refine hK34 _ ?_
                clear hK34 K34
                refine Ethen.n ?_
                clear hK12 K12
                have e : okRB l[k] = true := by unfold okRB; rw [decide_eq_true_eq]; omega
                rw [e, Bool.true_and] at hinv
                refine ⟨k + 1, ⟨by omega, hinv⟩, by omega, (by refine ⟨?_, ?_, ?_, ?_, ?_, ?_⟩ <;> (simp [subE, lk, AV.low, C.low, LB.low, Problem.ds, TagRule.ds, Fld.ds, Sub.ds, Rec.ds] <;> fail))⟩
      · try simp only [decide_eq_true_eq, decide_eq_false_iff_not, Bool.not_eq_true', Bool.not_eq_false', Int.not_lt, Int.not_le, ne_eq, Decidable.not_not, bne_iff_ne, beq_iff_eq, Bool.and_eq_true, Bool.or_eq_true, Bool.and_eq_false_iff, Bool.or_eq_false_iff, Bool.not_not, Ax.u8eq] at hc18
        refine AXc.exit ?_
        refine Ethen.e ?_
        clear hK15 K15
        refine Ethen.e ?_
        refine EinBlock.hit ?_
        refine Ethen.n ?_
        refine hK12 _ ?_
        clear hK12 K12
        refine AXc.seq fun K35 hK35 => ?_
        refine AXc.seq fun K36 hK36 => ?_
        refine AXc.region' fun K37 hK37 => ?_
        refine AXl.qt rfl (by decide : (6:Nat) < 81) (Still.qt (s_assign _)) ?_
        refine AXl.nm_g0 ?_
        refine AXl.nil ?_
        refine hK37 _ ?_
        clear hK37 K37
        refine Ethen.n ?_
        refine hK36 _ ?_
        clear hK36 K36
        refine AXc.block ?_
        have hl1 : l.all okRB = true := by rw [← hinv, drop_end (by omega)]; rfl
        refine AXc.loop (S := Nat) (fun k => ⟨[(0, .c (.d (.lst 7 (l.map TagRule.ds)))), (3, .c (.loc 0 0)), (6, .c (.d (.int .i64 k)))], [.box 27 (r.ds.map C.d)]⟩) (fun k => k ≤ r.fields.length ∧ (r.fields.drop k).all okFB = r.fields.all okFB) (fun k => r.fields.length - k) 0 ⟨by omega, by simp⟩ (by refine ⟨?_, ?_, ?_, ?_, ?_, ?_⟩ <;> (simp [subE, lk, AV.low, C.low, LB.low, Problem.ds, TagRule.ds, Fld.ds, Sub.ds, Rec.ds] <;> fail)) ?_
        clear hinv hk0
        rintro k ⟨hk0, hinv⟩
        try simp only [Problem.ds, TagRule.ds, Fld.ds, Sub.ds, Rec.ds, List.map_cons, List.map_nil]
        refine AXc.seq fun K38 hK38 => ?_
        refine AXc.seq fun K39 hK39 => ?_
        refine AXc.region' fun K40 hK40 => ?_
        refine AXl.qt rfl (by decide : (56:Nat) < 81) (Still.qt (s_move _)) ?_
        first
          | refine AXl.qt rfl (by decide : (57:Nat) < 81) (Still.qt (s_field_loc _ _ _ fdT_27_4_g rfl)) ?_
          | refine AXl.qt rfl (by decide : (57:Nat) < 81) (Still.qt (s_field_ptr _ _ _ fdT_27_4_g rfl)) ?_
          | refine AXl.qt rfl (by decide : (57:Nat) < 81) (Still.qt (s_field_row _ _ _ fdT_27_4_g rfl rfl)) ?_
        first
          | refine AXl.qt rfl (by decide : (58:Nat) < 81) (Still.qt (s_load1 _ _ ldT_25_g rfl)) ?_
          | refine AXl.qt rfl (by decide : (58:Nat) < 81) (Still.qt (s_load1_row _ _ ldT_25_g rfl rfl (by first | rfl | exact List.getElem?_eq_getElem (by omega)) rfl)) ?_
        first
          | refine AXl.qt rfl (by decide : (59:Nat) < 81) (Still.qt (s_len _ _ Tryd.underlying25 rfl)) ?_
          | refine AXl.qt rfl (by decide : (59:Nat) < 81) (Still.qt (s_len_nil _ _ Tryd.underlying25 rfl)) ?_
        refine AXl.qt rfl (by decide : (60:Nat) < 81) (Still.qt (s_icmp _ _ _ _ _ rfl rfl rfl)) ?_
        refine AXl.nm_g0 ?_
        refine AXl.nil ?_
        refine hK40 _ ?_
        clear hK40 K40
        refine Ethen.n ?_
        refine hK39 _ ?_
        clear hK39 K39
        refine AXc.cond rfl (fun hc41 => ?_) (fun hc41 => ?_)
        · try simp only [decide_eq_true_eq, decide_eq_false_iff_not, Bool.not_eq_true', Bool.not_eq_false', Int.not_lt, Int.not_le, ne_eq, Decidable.not_not, bne_iff_ne, beq_iff_eq, Bool.and_eq_true, Bool.or_eq_true, Bool.and_eq_false_iff, Bool.or_eq_false_iff, Bool.not_not, Ax.u8eq] at hc41
          have hk : k < r.fields.length := by omega
          rw [drop_cons hk, List.all_cons] at hinv
          refine AXc.skip ?_
          refine Ethen.n ?_
          refine hK38 _ ?_
          clear hK38 K38
          refine AXc.seq fun K42 hK42 => ?_
          refine AXc.block ?_
          refine AXc.seq fun K43 hK43 => ?_
          refine AXc.region' fun K44 hK44 => ?_
          first
            | refine AXl.qt rfl (by decide : (63:Nat) < 81) (Still.qt (s_field_loc _ _ _ fdT_27_4_g rfl)) ?_
            | refine AXl.qt rfl (by decide : (63:Nat) < 81) (Still.qt (s_field_ptr _ _ _ fdT_27_4_g rfl)) ?_
            | refine AXl.qt rfl (by decide : (63:Nat) < 81) (Still.qt (s_field_row _ _ _ fdT_27_4_g rfl rfl)) ?_
          first
            | refine AXl.qt rfl (by decide : (64:Nat) < 81) (Still.qt (s_load1 _ _ ldT_25_g rfl)) ?_
            | refine AXl.qt rfl (by decide : (64:Nat) < 81) (Still.qt (s_load1_row _ _ ldT_25_g rfl rfl (by first | rfl | exact List.getElem?_eq_getElem (by omega)) rfl)) ?_
          refine AXl.qt rfl (by decide : (65:Nat) < 81) (Still.qt (s_move _)) ?_
          first
            | refine AXl.qt rfl (by decide : (66:Nat) < 81) (Still.qt (s_index _ _ _ slT_25_g (.inl rfl) rfl rfl (by first | omega | (simp only [List.length_map, List.length_cons, List.length_nil, List.length_append, List.length_take, List.length_drop]; omega)) (List.getElem?_eq_getElem (by first | omega | (simp only [List.length_map, List.length_cons, List.length_nil, List.length_append, List.length_take, List.length_drop]; omega))))) ?_
            | refine AXl.qt rfl (by decide : (66:Nat) < 81) (Still.qt (s_index _ _ _ slT_25_g (.inr rfl) rfl rfl (by first | omega | (simp only [List.length_map, List.length_cons, List.length_nil, List.length_append, List.length_take, List.length_drop]; omega)) (List.getElem?_eq_getElem (by first | omega | (simp only [List.length_map, List.length_cons, List.length_nil, List.length_append, List.length_take, List.length_drop]; omega))))) ?_
            | refine AXl.qt rfl (by decide : (66:Nat) < 81) (Still.qt (s_index_own _ _ _ slT_25_g rfl rfl rfl rfl (by first | omega | (simp only [List.length_map, List.length_cons, List.length_nil, List.length_append, List.length_take, List.length_drop]; omega)) (by first | omega | (simp only [List.length_map, List.length_cons, List.length_nil, List.length_append, List.length_take, List.length_drop]; omega)))) ?_
          refine AXl.nm_g0 ?_
          first
            | refine AXl.qt rfl (by decide : (67:Nat) < 81) (Still.qt (s_field_loc _ _ _ fdT_45_2_g rfl)) ?_
            | refine AXl.qt rfl (by decide : (67:Nat) < 81) (Still.qt (s_field_ptr _ _ _ fdT_45_2_g rfl)) ?_
            | refine AXl.qt rfl (by decide : (67:Nat) < 81) (Still.qt (s_field_row _ _ _ fdT_45_2_g rfl rfl)) ?_
          first
            | refine AXl.qt rfl (by decide : (68:Nat) < 81) (Still.qt (s_load1 _ _ ldT_43_g rfl)) ?_
            | refine AXl.qt rfl (by decide : (68:Nat) < 81) (Still.qt (s_load1_row _ _ ldT_43_g rfl rfl (by first | rfl | exact List.getElem?_eq_getElem (by omega)) rfl)) ?_
          first
            | refine AXl.qt rfl (by decide : (69:Nat) < 81) (Still.qt (s_len _ _ Tryd.underlying43 rfl)) ?_
            | refine AXl.qt rfl (by decide : (69:Nat) < 81) (Still.qt (s_len_nil _ _ Tryd.underlying43 rfl)) ?_
          refine AXl.qt rfl (by decide : (70:Nat) < 81) (Still.qt (s_icmp _ _ _ _ _ rfl rfl rfl)) ?_
          refine AXl.qt rfl (by decide : (71:Nat) < 81) (Still.qt (s_move _)) ?_
          refine AXl.nm_g0 ?_
          refine AXl.split 71 _ rfl (fun hg45 => ?_) (fun hg45 => ?_)
          · try simp only [decide_eq_true_eq, decide_eq_false_iff_not, Bool.not_eq_true', Bool.not_eq_false', Int.not_lt, Int.not_le, ne_eq, Decidable.not_not, bne_iff_ne, beq_iff_eq, Bool.and_eq_true, Bool.or_eq_true, Bool.and_eq_false_iff, Bool.or_eq_false_iff, Bool.not_not, Ax.u8eq] at hg45
            simp only [del, ↓reduceIte, Nat.reduceEqDiff]
            refine AXl.skip_guard (by decide : (72:Nat) < 81) rfl (by kernel_rfl) ?_
            refine AXl.skip_guard (by decide : (73:Nat) < 81) rfl (by kernel_rfl) ?_
            refine AXl.skip_guard (by decide : (74:Nat) < 81) rfl (by kernel_rfl) ?_
            refine AXl.skip_guard (by decide : (75:Nat) < 81) rfl (by kernel_rfl) ?_
            refine AXl.skip_guard (by decide : (76:Nat) < 81) rfl (by kernel_rfl) ?_
            refine AXl.skip_guard (by decide : (77:Nat) < 81) rfl (by kernel_rfl) ?_
            refine AXl.skip_guard (by decide : (78:Nat) < 81) rfl (by kernel_rfl) ?_
            refine AXl.skip_guard (by decide : (79:Nat) < 81) rfl (by kernel_rfl) ?_
            refine AXl.qt rfl (by decide : (80:Nat) < 81) (Still.qt (s_pick_t _ _ _ rfl)) ?_
            refine AXl.nm_g0 ?_
            refine AXl.nil ?_
            refine hK44 _ ?_
            clear hK44 K44
            refine Ethen.n ?_
            refine hK43 _ ?_
            clear hK43 K43
            refine AXc.cond_t rfl ?_
            refine AXc.seq fun K46 hK46 => ?_
            refine AXc.region' fun K47 hK47 => ?_
            refine AXl.qt rfl (by decide : (4:Nat) < 81) (Still.qt (s_assign _)) ?_
            refine AXl.nm_g0 ?_
            refine AXl.nil ?_
            refine hK47 _ ?_
            clear hK47 K47
            refine Ethen.n ?_
            refine hK46 _ ?_
            clear hK46 K46
            refine AXc.ret ?_
            refine EinBlock.r ?_
            refine Ethen.r ?_
            clear hK42 K42
            refine Ethen.r ?_
            refine EinBlock.r ?_
            refine Ethen.r ?_
            clear hK35 K35
            refine Fin.ret rfl rfl ?_
            refine congrArg (fun x => [RV.d (.bool x)]) ?_
            symm
            unfold smallB
            first
              | (rw [decide_eq_false (by omega), Bool.false_and])
              | (rw [decide_eq_true (by omega), decide_eq_false (by omega), Bool.false_and, Bool.true_and])
              | (have e : okRB l[k] = false := by unfold okRB; rw [decide_eq_false_iff_not]; omega
                 rw [← hinv, e, Bool.false_and, Bool.false_and, Bool.and_false, Bool.and_false])
              | (have e : okFB r.fields[k] = false := by unfold okFB; rw [decide_eq_false_iff_not]; omega
                 rw [← hinv, e, Bool.false_and, Bool.and_false, Bool.and_false, Bool.and_false])
              | (have e : r.fields.all okFB = true := by rw [← hinv, drop_end (by omega)]; rfl
                 rw [e, hl1, decide_eq_true (by omega), decide_eq_true (by omega)]; rfl)
          · try simp only [decide_eq_true_eq, decide_eq_false_iff_not, Bool.not_eq_true', Bool.not_eq_false', Int.not_lt, Int.not_le, ne_eq, Decidable.not_not, bne_iff_ne, beq_iff_eq, Bool.and_eq_true, Bool.or_eq_true, Bool.and_eq_false_iff, Bool.or_eq_false_iff, Bool.not_not, Ax.u8eq] at hg45
            simp only [del, ↓reduceIte, Nat.reduceEqDiff]
            first
              | refine AXl.qt_guard (by decide : (72:Nat) < 81) rfl (by kernel_rfl) (Still.qt (s_field_loc _ _ _ fdT_27_4_g rfl)) ?_
              | refine AXl.qt_guard (by decide : (72:Nat) < 81) rfl (by kernel_rfl) (Still.qt (s_field_ptr _ _ _ fdT_27_4_g rfl)) ?_
              | refine AXl.qt_guard (by decide : (72:Nat) < 81) rfl (by kernel_rfl) (Still.qt (s_field_row _ _ _ fdT_27_4_g rfl rfl)) ?_
            first
              | refine AXl.qt_guard (by decide : (73:Nat) < 81) rfl (by kernel_rfl) (Still.qt (s_load1 _ _ ldT_25_g rfl)) ?_
              | refine AXl.qt_guard (by decide : (73:Nat) < 81) rfl (by kernel_rfl) (Still.qt (s_load1_row _ _ ldT_25_g rfl rfl (by first | rfl | exact List.getElem?_eq_getElem (by omega)) rfl)) ?_
            refine AXl.qt_guard (by decide : (74:Nat) < 81) rfl (by kernel_rfl) (Still.qt (s_move _)) ?_
            first
              | refine AXl.qt_guard (by decide : (75:Nat) < 81) rfl (by kernel_rfl) (Still.qt (s_index _ _ _ slT_25_g (.inl rfl) rfl rfl (by first | omega | (simp only [List.length_map, List.length_cons, List.length_nil, List.length_append, List.length_take, List.length_drop]; omega)) (List.getElem?_eq_getElem (by first | omega | (simp only [List.length_map, List.length_cons, List.length_nil, List.length_append, List.length_take, List.length_drop]; omega))))) ?_
              | refine AXl.qt_guard (by decide : (75:Nat) < 81) rfl (by kernel_rfl) (Still.qt (s_index _ _ _ slT_25_g (.inr rfl) rfl rfl (by first | omega | (simp only [List.length_map, List.length_cons, List.length_nil, List.length_append, List.length_take, List.length_drop]; omega)) (List.getElem?_eq_getElem (by first | omega | (simp only [List.length_map, List.length_cons, List.length_nil, List.length_append, List.length_take, List.length_drop]; omega))))) ?_
              | refine AXl.qt_guard (by decide : (75:Nat) < 81) rfl (by kernel_rfl) (Still.qt (s_index_own _ _ _ slT_25_g rfl rfl rfl rfl (by first | omega | (simp only [List.length_map, List.length_cons, List.length_nil, List.length_append, List.length_take, List.length_drop]; omega)) (by first | omega | (simp only [List.length_map, List.length_cons, List.length_nil, List.length_append, List.length_take, List.length_drop]; omega)))) ?_
            refine AXl.nm_g0 ?_
            first
              | refine AXl.qt_guard (by decide : (76:Nat) < 81) rfl (by kernel_rfl) (Still.qt (s_field_loc _ _ _ fdT_45_0_g rfl)) ?_
              | refine AXl.qt_guard (by decide : (76:Nat) < 81) rfl (by kernel_rfl) (Still.qt (s_field_ptr _ _ _ fdT_45_0_g rfl)) ?_
              | refine AXl.qt_guard (by decide : (76:Nat) < 81) rfl (by kernel_rfl) (Still.qt (s_field_row _ _ _ fdT_45_0_g rfl rfl)) ?_
            first
              | refine AXl.qt_guard (by decide : (77:Nat) < 81) rfl (by kernel_rfl) (Still.qt (s_load1 _ _ ldT_9_g rfl)) ?_
              | refine AXl.qt_guard (by decide : (77:Nat) < 81) rfl (by kernel_rfl) (Still.qt (s_load1_row _ _ ldT_9_g rfl rfl (by first | rfl | exact List.getElem?_eq_getElem (by omega)) rfl)) ?_
            refine AXl.qt_guard (by decide : (78:Nat) < 81) rfl (by kernel_rfl) (Still.qt (s_len_str _ _ Tryd.underlying9 rfl)) ?_
            refine AXl.qt_guard (by decide : (79:Nat) < 81) rfl (by kernel_rfl) (Still.qt (s_icmp _ _ _ _ _ rfl rfl rfl)) ?_
            refine AXl.qt rfl (by decide : (80:Nat) < 81) (Still.qt (s_pick_f _ _ _ rfl)) ?_
            refine AXl.nm_g0 ?_
            refine AXl.nil ?_
            refine hK44 _ ?_
            clear hK44 K44
            refine Ethen.n ?_
            refine hK43 _ ?_
            clear hK43 K43
            refine AXc.cond rfl (fun hc48 => ?_) (fun hc48 => ?_)
            · try simp only [decide_eq_true_eq, decide_eq_false_iff_not, Bool.not_eq_true', Bool.not_eq_false', Int.not_lt, Int.not_le, ne_eq, Decidable.not_not, bne_iff_ne, beq_iff_eq, Bool.and_eq_true, Bool.or_eq_true, Bool.and_eq_false_iff, Bool.or_eq_false_iff, Bool.not_not, Ax.u8eq] at hc48
              refine AXc.seq fun K49 hK49 => ?_
              refine AXc.region' fun K50 hK50 => ?_
              refine AXl.qt rfl (by decide : (4:Nat) < 81) (Still.qt (s_assign _)) ?_
              refine AXl.nm_g0 ?_
              refine AXl.nil ?_
              refine hK50 _ ?_
              clear hK50 K50
              refine Ethen.n ?_
              refine hK49 _ ?_
              clear hK49 K49
              refine AXc.ret ?_
              refine EinBlock.r ?_
              refine Ethen.r ?_
              clear hK42 K42
              refine Ethen.r ?_
              refine EinBlock.r ?_
              refine Ethen.r ?_
              clear hK35 K35
              refine Fin.ret rfl rfl ?_
              refine congrArg (fun x => [RV.d (.bool x)]) ?_
              symm
              unfold smallB
              first
                | (rw [decide_eq_false (by omega), Bool.false_and])
                | (rw [decide_eq_true (by omega), decide_eq_false (by omega), Bool.false_and, Bool.true_and])
                | (have e : okRB l[k] = false := by unfold okRB; rw [decide_eq_false_iff_not]; omega
                   rw [← hinv, e, Bool.false_and, Bool.false_and, Bool.and_false, Bool.and_false])
                | (have e : okFB r.fields[k] = false := by unfold okFB; rw [decide_eq_false_iff_not]; omega
                   rw [← hinv, e, Bool.false_and, Bool.and_false, Bool.and_false, Bool.and_false])
                | (have e : r.fields.all okFB = true := by rw [← hinv, drop_end (by omega)]; rfl
                   rw [e, hl1, decide_eq_true (by omega), decide_eq_true (by omega)]; rfl)
            · try simp only [decide_eq_true_eq, decide_eq_false_iff_not, Bool.not_eq_true', Bool.not_eq_false', Int.not_lt, Int.not_le, ne_eq, Decidable.not_not, bne_iff_ne, beq_iff_eq, Bool.and_eq_true, Bool.or_eq_true, Bool.and_eq_false_iff, Bool.or_eq_false_iff, Bool.not_not, Ax.u8eq] at hc48
              refine AXc.skip ?_
              refine EinBlock.n ?_
              refine Ethen.n ?_
              refine hK42 _ ?_
              clear hK42 K42
              refine AXc.region' fun K51 hK51 => ?_
              refine AXl.qt rfl (by decide : (61:Nat) < 81) (Still.qt (s_move _)) ?_
              refine AXl.qt rfl (by decide : (62:Nat) < 81) (Still.qt (s_iar _ _ _ _ _ rfl rfl rfl (IntWalk.i64_in _ ⟨(by first | omega | (simp only [List.length_map, List.length_cons, List.length_nil, List.length_append, List.length_take, List.length_drop]; omega)), (by first | omega | (simp only [List.length_map, List.length_cons, List.length_nil, List.length_append, List.length_take, List.length_drop]; omega))⟩))) ?_
              refine AXl.qt rfl (by decide : (6:Nat) < 81) (Still.qt (s_assign _)) ?_
              refine AXl.nm_g0 ?_
              refine AXl.nil ?_
              refine hK51 _ ?_
              clear hK51 K51
              refine Ethen.n ?_
              clear hK35 K35
              have e : okFB r.fields[k] = true := by unfold okFB; rw [decide_eq_true_eq]; omega
              rw [e, Bool.true_and] at hinv
              refine ⟨k + 1, ⟨by omega, hinv⟩, by omega, (by refine ⟨?_, ?_, ?_, ?_, ?_, ?_⟩ <;> (simp [subE, lk, AV.low, C.low, LB.low, Problem.ds, TagRule.ds, Fld.ds, Sub.ds, Rec.ds] <;> fail))⟩
        · try simp only [decide_eq_true_eq, decide_eq_false_iff_not, Bool.not_eq_true', Bool.not_eq_false', Int.not_lt, Int.not_le, ne_eq, Decidable.not_not, bne_iff_ne, beq_iff_eq, Bool.and_eq_true, Bool.or_eq_true, Bool.and_eq_false_iff, Bool.or_eq_false_iff, Bool.not_not, Ax.u8eq] at hc41
          refine AXc.exit ?_
          refine Ethen.e ?_
          clear hK38 K38
          refine Ethen.e ?_
          refine EinBlock.hit ?_
          refine Ethen.n ?_
          refine hK35 _ ?_
          clear hK35 K35
          refine AXc.seq fun K52 hK52 => ?_
          refine AXc.region' fun K53 hK53 => ?_
          refine AXl.qt rfl (by decide : (4:Nat) < 81) (Still.qt (s_assign _)) ?_
          refine AXl.nm_g0 ?_
          refine AXl.nil ?_
          refine hK53 _ ?_
          clear hK53 K53
          refine Ethen.n ?_
          refine hK52 _ ?_
          clear hK52 K52
          refine AXc.ret ?_
          refine Fin.ret rfl rfl ?_
          refine congrArg (fun x => [RV.d (.bool x)]) ?_
          symm
          unfold smallB
          first
            | (rw [decide_eq_false (by omega), Bool.false_and])
            | (rw [decide_eq_true (by omega), decide_eq_false (by omega), Bool.false_and, Bool.true_and])
            | (have e : okRB l[k] = false := by unfold okRB; rw [decide_eq_false_iff_not]; omega
               rw [← hinv, e, Bool.false_and, Bool.false_and, Bool.and_false, Bool.and_false])
            | (have e : okFB r.fields[k] = false := by unfold okFB; rw [decide_eq_false_iff_not]; omega
               rw [← hinv, e, Bool.false_and, Bool.and_false, Bool.and_false, Bool.and_false])
            | (have e : r.fields.all okFB = true := by rw [← hinv, drop_end (by omega)]; rfl
               rw [e, hl1, decide_eq_true (by omega), decide_eq_true (by omega)]; rfl)
set_option maxHeartbeats 4000000 in
/-- The contract of library libraryref09.Right. -/
theorem c12 {Γ : List (Nat × List D)} (l : List TagRule) (hl : OkL l) : AFn Tryd.prog Γ 12 [.c (.d (.lst 7 (l.map TagRule.ds)))] [.d (.int .i64 (rightR l))] := by
  have hl60 := hl.len
  refine AFn.of_body0 (n := 80) (res := [.tmp 2]) Tryd.func12 (by kernel_rfl) rfl Tryd.ntmps12 (by rw [Tryd.results12]) (by simp) ?_
  simp only [envOf, Nat.reduceAdd]
  refine AXc.seq fun K1 hK1 => ?_
  refine AXc.region' fun K2 hK2 => ?_
  refine AXl.qt rfl (by decide : (2:Nat) < 80) (Still.qt (s_assign _)) ?_
  refine AXl.nm_g0 ?_
  refine AXl.nil ?_
  refine hK2 _ ?_
  clear hK2 K2
  refine Ethen.n ?_
  refine hK1 _ ?_
  clear hK1 K1
  refine AXc.seq fun K3 hK3 => ?_
  refine AXc.seq fun K4 hK4 => ?_
  refine AXc.region' fun K5 hK5 => ?_
  refine AXl.qt rfl (by decide : (5:Nat) < 80) (Still.qt (s_move _)) ?_
  first
    | refine AXl.qt rfl (by decide : (6:Nat) < 80) (Still.qt (s_len _ _ Tryd.underlying22 rfl)) ?_
    | refine AXl.qt rfl (by decide : (6:Nat) < 80) (Still.qt (s_len_nil _ _ Tryd.underlying22 rfl)) ?_
  refine AXl.qt rfl (by decide : (7:Nat) < 80) (Still.qt (s_icmp _ _ _ _ _ rfl rfl rfl)) ?_
  refine AXl.nm_g0 ?_
  refine AXl.nil ?_
  refine hK5 _ ?_
  clear hK5 K5
  refine Ethen.n ?_
  refine hK4 _ ?_
  clear hK4 K4
  refine AXc.cond rfl (fun hc6 => ?_) (fun hc6 => ?_)
  · try simp only [decide_eq_true_eq, decide_eq_false_iff_not, Bool.not_eq_true', Bool.not_eq_false', ne_eq, Decidable.not_not, bne_iff_ne, beq_iff_eq, Bool.and_eq_true, Bool.or_eq_true, Bool.and_eq_false_iff, Bool.or_eq_false_iff, Bool.not_not, Ax.u8eq] at hc6
    refine AXc.seq fun K7 hK7 => ?_
    refine AXc.region' fun K8 hK8 => ?_
    refine AXl.qt rfl (by decide : (2:Nat) < 80) (Still.qt (s_assign _)) ?_
    refine AXl.nm_g0 ?_
    refine AXl.nil ?_
    refine hK8 _ ?_
    clear hK8 K8
    refine Ethen.n ?_
    refine hK7 _ ?_
    clear hK7 K7
    refine AXc.ret ?_
    refine Ethen.r ?_
    clear hK3 K3
    refine Fin.ret rfl rfl ?_
    refine congrArg (fun x => [RV.d (.int .i64 x)]) ?_
    first
      | (unfold rightR; rw [if_pos (by omega)])
      | (rw [right_ok (by omega) (fun j hj => hinv j (by omega))])
      | (have g1 := getk1 (l := l) (k := k) (by omega)
         refine Eq.trans ?_ (right_at (k := k) (by omega) hk hinv ?_).symm
         · simp only [errAt, getk hk, hk1, within, g1, hc6, Bool.not_true, Bool.not_false, Bool.and_eq_true, Bool.or_eq_true, Bool.not_eq_true', decide_eq_true_eq, if_true, if_false, true_or, or_true, false_or, or_false, true_and, and_true, false_and, and_false, Bool.false_eq_true, Bool.true_eq_false, reduceCtorEq, not_true, not_false, ↓reduceIte, not_false_eq_true, not_true_eq_false, or_self, and_self, ne_eq, Int.reduceEq, Int.reduceNeg]
         · simp only [errAt, getk hk, hk1, within, g1, hc6, Bool.not_true, Bool.not_false, Bool.and_eq_true, Bool.or_eq_true, Bool.not_eq_true', decide_eq_true_eq, if_true, if_false, true_or, or_true, false_or, or_false, true_and, and_true, false_and, and_false, Bool.false_eq_true, Bool.true_eq_false, reduceCtorEq, not_true, not_false, ↓reduceIte, not_false_eq_true, not_true_eq_false, or_self, and_self, ne_eq, Int.reduceEq, Int.reduceNeg])
      | (refine Eq.trans ?_ (right_at (k := k) (by omega) hk hinv ?_).symm
         · simp only [errAt, getk hk, hk1, within, hc6, Bool.not_true, Bool.not_false, Bool.and_eq_true, Bool.or_eq_true, Bool.not_eq_true', decide_eq_true_eq, if_true, if_false, true_or, or_true, false_or, or_false, true_and, and_true, false_and, and_false, Bool.false_eq_true, Bool.true_eq_false, reduceCtorEq, not_true, not_false, ↓reduceIte, not_false_eq_true, not_true_eq_false, or_self, and_self, ne_eq, Int.reduceEq, Int.reduceNeg]
         · simp only [errAt, getk hk, hk1, within, hc6, Bool.not_true, Bool.not_false, Bool.and_eq_true, Bool.or_eq_true, Bool.not_eq_true', decide_eq_true_eq, if_true, if_false, true_or, or_true, false_or, or_false, true_and, and_true, false_and, and_false, Bool.false_eq_true, Bool.true_eq_false, reduceCtorEq, not_true, not_false, ↓reduceIte, not_false_eq_true, not_true_eq_false, or_self, and_self, ne_eq, Int.reduceEq, Int.reduceNeg])
  · try simp only [decide_eq_true_eq, decide_eq_false_iff_not, Bool.not_eq_true', Bool.not_eq_false', ne_eq, Decidable.not_not, bne_iff_ne, beq_iff_eq, Bool.and_eq_true, Bool.or_eq_true, Bool.and_eq_false_iff, Bool.or_eq_false_iff, Bool.not_not, Ax.u8eq] at hc6
    refine AXc.skip ?_
    refine Ethen.n ?_
    refine hK3 _ ?_
    clear hK3 K3
    refine AXc.seq fun K9 hK9 => ?_
    refine AXc.seq fun K10 hK10 => ?_
    refine AXc.region' fun K11 hK11 => ?_
    refine AXl.qt rfl (by decide : (3:Nat) < 80) (Still.qt (s_assign _)) ?_
    refine AXl.nm_g0 ?_
    refine AXl.nil ?_
    refine hK11 _ ?_
    clear hK11 K11
    refine Ethen.n ?_
    refine hK10 _ ?_
    clear hK10 K10
    refine AXc.block ?_
    refine AXc.loop (S := Nat) (fun k => ⟨[(0, .c (.d (.lst 7 (l.map TagRule.ds)))), (3, .c (.d (.int .i64 k)))], []⟩) (fun k => k ≤ l.length ∧ ∀ j, j < k → errAt l j = 0) (fun k => l.length - k) 0 ⟨by omega, by omega⟩ (by refine ⟨?_, ?_, ?_, ?_, ?_, ?_⟩ <;> (simp [subE, lk, AV.low, C.low, LB.low] <;> fail)) ?_
    rintro k ⟨hk0, hinv⟩
    refine AXc.seq fun K12 hK12 => ?_
    refine AXc.seq fun K13 hK13 => ?_
    refine AXc.region' fun K14 hK14 => ?_
    refine AXl.qt rfl (by decide : (8:Nat) < 80) (Still.qt (s_move _)) ?_
    refine AXl.qt rfl (by decide : (9:Nat) < 80) (Still.qt (s_move _)) ?_
    first
      | refine AXl.qt rfl (by decide : (10:Nat) < 80) (Still.qt (s_len _ _ Tryd.underlying22 rfl)) ?_
      | refine AXl.qt rfl (by decide : (10:Nat) < 80) (Still.qt (s_len_nil _ _ Tryd.underlying22 rfl)) ?_
    refine AXl.qt rfl (by decide : (11:Nat) < 80) (Still.qt (s_icmp _ _ _ _ _ rfl rfl rfl)) ?_
    refine AXl.nm_g0 ?_
    refine AXl.nil ?_
    refine hK14 _ ?_
    clear hK14 K14
    refine Ethen.n ?_
    refine hK13 _ ?_
    clear hK13 K13
    refine AXc.cond rfl (fun hc15 => ?_) (fun hc15 => ?_)
    · try simp only [decide_eq_true_eq, decide_eq_false_iff_not, Bool.not_eq_true', Bool.not_eq_false', ne_eq, Decidable.not_not, bne_iff_ne, beq_iff_eq, Bool.and_eq_true, Bool.or_eq_true, Bool.and_eq_false_iff, Bool.or_eq_false_iff, Bool.not_not, Ax.u8eq] at hc15
      have hk : k < l.length := by omega
      have hokr : OkR l[k] := hl.all _ (List.getElem_mem _)
      have hk1 : (0 < k) = ((0:Int) < (k:Int)) := by simp
      refine AXc.skip ?_
      refine Ethen.n ?_
      refine hK12 _ ?_
      clear hK12 K12
      refine AXc.seq fun K16 hK16 => ?_
      refine AXc.block ?_
      refine AXc.seq fun K17 hK17 => ?_
      refine AXc.region' fun K18 hK18 => ?_
      refine AXl.qt rfl (by decide : (14:Nat) < 80) (Still.qt (s_move _)) ?_
      refine AXl.qt rfl (by decide : (15:Nat) < 80) (Still.qt (s_move _)) ?_
      first
        | refine AXl.qt rfl (by decide : (16:Nat) < 80) (Still.qt (s_index _ _ _ slT_22_g (.inl rfl) rfl rfl (by first | omega | (simp only [List.length_map, List.length_cons, List.length_nil, List.length_append, List.length_take, List.length_drop]; omega)) (List.getElem?_eq_getElem (by first | omega | (simp only [List.length_map, List.length_cons, List.length_nil, List.length_append, List.length_take, List.length_drop]; omega))))) ?_
        | refine AXl.qt rfl (by decide : (16:Nat) < 80) (Still.qt (s_index _ _ _ slT_22_g (.inr rfl) rfl rfl (by first | omega | (simp only [List.length_map, List.length_cons, List.length_nil, List.length_append, List.length_take, List.length_drop]; omega)) (List.getElem?_eq_getElem (by first | omega | (simp only [List.length_map, List.length_cons, List.length_nil, List.length_append, List.length_take, List.length_drop]; omega))))) ?_
        | refine AXl.qt rfl (by decide : (16:Nat) < 80) (Still.qt (s_index_own _ _ _ slT_22_g rfl rfl rfl rfl (by first | omega | (simp only [List.length_map, List.length_cons, List.length_nil, List.length_append, List.length_take, List.length_drop]; omega)) (by first | omega | (simp only [List.length_map, List.length_cons, List.length_nil, List.length_append, List.length_take, List.length_drop]; omega)))) ?_
      refine AXl.nm_g0 ?_
      first
        | refine AXl.qt rfl (by decide : (17:Nat) < 80) (Still.qt (s_loadN _ _ ldT_29_g rfl (by simp [Problem.ds, TagRule.ds, Fld.ds, Sub.ds, Rec.ds]))) ?_
        | refine AXl.qt rfl (by decide : (17:Nat) < 80) (Still.qt (s_loadN_row _ _ ldT_29_g rfl rfl (by first | rfl | exact List.getElem?_eq_getElem (by omega)) (by simp [Problem.ds, TagRule.ds, Fld.ds, Sub.ds, Rec.ds]))) ?_
      refine AXl.alloc zC_29_g (by decide : (4:Nat) < 80) ?_
      refine AXl.nm_g0 ?_
      first
        | refine AXl.store rfl rfl rfl sz_29_g (by simp [Problem.ds, TagRule.ds, Fld.ds, Sub.ds, Rec.ds]) rfl ?_
        | refine AXl.store_row rfl rfl (by first | rfl | exact List.getElem?_eq_getElem (by omega)) rfl sz_29_g (by simp [Problem.ds, TagRule.ds, Fld.ds, Sub.ds, Rec.ds]) rfl ?_
      refine AXl.nm_g0 ?_
      refine AXl.nil ?_
      refine hK18 _ ?_
      clear hK18 K18
      refine Ethen.n ?_
      refine hK17 _ ?_
      clear hK17 K17
      refine AXc.seq fun K19 hK19 => ?_
      refine AXc.seq fun K20 hK20 => ?_
      refine AXc.region' fun K21 hK21 => ?_
      first
        | refine AXl.qt rfl (by decide : (18:Nat) < 80) (Still.qt (s_field_loc _ _ _ fdT_29_0_g rfl)) ?_
        | refine AXl.qt rfl (by decide : (18:Nat) < 80) (Still.qt (s_field_ptr _ _ _ fdT_29_0_g rfl)) ?_
        | refine AXl.qt rfl (by decide : (18:Nat) < 80) (Still.qt (s_field_row _ _ _ fdT_29_0_g rfl rfl)) ?_
      first
        | refine AXl.qt rfl (by decide : (19:Nat) < 80) (Still.qt (s_load1 _ _ ldT_9_g rfl)) ?_
        | refine AXl.qt rfl (by decide : (19:Nat) < 80) (Still.qt (s_load1_row _ _ ldT_9_g rfl rfl (by first | rfl | exact List.getElem?_eq_getElem (by omega)) rfl)) ?_
      refine AXl.nm_g0 ?_
      refine AXl.qt rfl (by decide : (20:Nat) < 80) (q_call (c23 _) (.cons (by first | exact ArgOk.d | exact ArgOk.bor rfl | exact ArgOk.agg rfl | exact ArgOk.agg (toDs_map _) | exact ArgOk.nil_bor | exact ArgOk.nil_lst | exact ArgOk.fn | exact ArgOk.ptr rfl rfl | exact ArgOk.aggn rfl (by repeat first | exact .nil | refine .cons (.refl _) ?_ | refine .cons (.nil _) ?_)) .nil)) ?_
      refine AXl.qt rfl (by decide : (21:Nat) < 80) (Still.qt (s_not _ _ rfl)) ?_
      refine AXl.nm_g0 ?_
      refine AXl.nil ?_
      refine hK21 _ ?_
      clear hK21 K21
      refine Ethen.n ?_
      refine hK20 _ ?_
      clear hK20 K20
      refine AXc.cond rfl (fun hc22 => ?_) (fun hc22 => ?_)
      · try simp only [decide_eq_true_eq, decide_eq_false_iff_not, Bool.not_eq_true', Bool.not_eq_false', ne_eq, Decidable.not_not, bne_iff_ne, beq_iff_eq, Bool.and_eq_true, Bool.or_eq_true, Bool.and_eq_false_iff, Bool.or_eq_false_iff, Bool.not_not, Ax.u8eq] at hc22
        refine AXc.seq fun K23 hK23 => ?_
        refine AXc.region' fun K24 hK24 => ?_
        refine AXl.qt rfl (by decide : (2:Nat) < 80) (Still.qt (s_assign _)) ?_
        refine AXl.nm_g0 ?_
        refine AXl.nil ?_
        refine hK24 _ ?_
        clear hK24 K24
        refine Ethen.n ?_
        refine hK23 _ ?_
        clear hK23 K23
        refine AXc.ret ?_
        refine Ethen.r ?_
        clear hK19 K19
        refine EinBlock.r ?_
        refine Ethen.r ?_
        clear hK16 K16
        refine Ethen.r ?_
        refine EinBlock.r ?_
        refine Ethen.r ?_
        clear hK9 K9
        refine Fin.ret rfl rfl ?_
        refine congrArg (fun x => [RV.d (.int .i64 x)]) ?_
        first
          | (unfold rightR; rw [if_pos (by omega)])
          | (rw [right_ok (by omega) (fun j hj => hinv j (by omega))])
          | (have g1 := getk1 (l := l) (k := k) (by omega)
             refine Eq.trans ?_ (right_at (k := k) (by omega) hk hinv ?_).symm
             · simp only [errAt, getk hk, hk1, within, g1, hc6, hc15, hc22, Bool.not_true, Bool.not_false, Bool.and_eq_true, Bool.or_eq_true, Bool.not_eq_true', decide_eq_true_eq, if_true, if_false, true_or, or_true, false_or, or_false, true_and, and_true, false_and, and_false, Bool.false_eq_true, Bool.true_eq_false, reduceCtorEq, not_true, not_false, ↓reduceIte, not_false_eq_true, not_true_eq_false, or_self, and_self, ne_eq, Int.reduceEq, Int.reduceNeg]
             · simp only [errAt, getk hk, hk1, within, g1, hc6, hc15, hc22, Bool.not_true, Bool.not_false, Bool.and_eq_true, Bool.or_eq_true, Bool.not_eq_true', decide_eq_true_eq, if_true, if_false, true_or, or_true, false_or, or_false, true_and, and_true, false_and, and_false, Bool.false_eq_true, Bool.true_eq_false, reduceCtorEq, not_true, not_false, ↓reduceIte, not_false_eq_true, not_true_eq_false, or_self, and_self, ne_eq, Int.reduceEq, Int.reduceNeg])
          | (refine Eq.trans ?_ (right_at (k := k) (by omega) hk hinv ?_).symm
             · simp only [errAt, getk hk, hk1, within, hc6, hc15, hc22, Bool.not_true, Bool.not_false, Bool.and_eq_true, Bool.or_eq_true, Bool.not_eq_true', decide_eq_true_eq, if_true, if_false, true_or, or_true, false_or, or_false, true_and, and_true, false_and, and_false, Bool.false_eq_true, Bool.true_eq_false, reduceCtorEq, not_true, not_false, ↓reduceIte, not_false_eq_true, not_true_eq_false, or_self, and_self, ne_eq, Int.reduceEq, Int.reduceNeg]
             · simp only [errAt, getk hk, hk1, within, hc6, hc15, hc22, Bool.not_true, Bool.not_false, Bool.and_eq_true, Bool.or_eq_true, Bool.not_eq_true', decide_eq_true_eq, if_true, if_false, true_or, or_true, false_or, or_false, true_and, and_true, false_and, and_false, Bool.false_eq_true, Bool.true_eq_false, reduceCtorEq, not_true, not_false, ↓reduceIte, not_false_eq_true, not_true_eq_false, or_self, and_self, ne_eq, Int.reduceEq, Int.reduceNeg])
      · try simp only [decide_eq_true_eq, decide_eq_false_iff_not, Bool.not_eq_true', Bool.not_eq_false', ne_eq, Decidable.not_not, bne_iff_ne, beq_iff_eq, Bool.and_eq_true, Bool.or_eq_true, Bool.and_eq_false_iff, Bool.or_eq_false_iff, Bool.not_not, Ax.u8eq] at hc22
        refine AXc.skip ?_
        refine Ethen.n ?_
        refine hK19 _ ?_
        clear hK19 K19
        refine AXc.seq fun K25 hK25 => ?_
        refine AXc.seq fun K26 hK26 => ?_
        refine AXc.draw' mixed_g 13 (by kernel_rfl) fun K27 hK27 => ?_
        simp only [List.take_succ_cons, List.take_zero, List.take_nil, List.drop_succ_cons, List.drop_zero, List.drop_nil]
        refine AXd.op rfl (Still.qt (s_move _)) ?_
        refine AXd.op rfl (Still.qt (s_icmp _ _ _ _ _ rfl rfl rfl)) ?_
        refine AXd.op rfl (Still.qt (s_move _)) ?_
        refine AXd.nm_g0 ?_
        refine AXd.split 24 _ rfl (fun hg28 => ?_) (fun hg28 => ?_)
        · try simp only [decide_eq_true_eq, decide_eq_false_iff_not, Bool.not_eq_true', Bool.not_eq_false', ne_eq, Decidable.not_not, bne_iff_ne, beq_iff_eq, Bool.and_eq_true, Bool.or_eq_true, Bool.and_eq_false_iff, Bool.or_eq_false_iff, Bool.not_not, Ax.u8eq] at hg28
          simp only [del, ↓reduceIte, Nat.reduceEqDiff]
          first
            | refine AXd.op rfl (Still.qt (s_field_loc _ _ _ fdT_29_0_g rfl)) ?_
            | refine AXd.op rfl (Still.qt (s_field_ptr _ _ _ fdT_29_0_g rfl)) ?_
            | refine AXd.op rfl (Still.qt (s_field_row _ _ _ fdT_29_0_g rfl rfl)) ?_
          first
            | refine AXd.op rfl (Still.qt (s_load1 _ _ ldT_9_g rfl)) ?_
            | refine AXd.op rfl (Still.qt (s_load1_row _ _ ldT_9_g rfl rfl (by first | rfl | exact List.getElem?_eq_getElem (by omega)) rfl)) ?_
          refine AXd.op rfl (Still.qt (s_move _)) ?_
          refine AXd.op rfl (Still.qt (s_move _)) ?_
          refine AXd.op rfl (Still.qt (s_iar _ _ _ _ _ rfl rfl rfl (IntWalk.i64_in _ ⟨(by first | omega | (simp only [List.length_map, List.length_cons, List.length_nil, List.length_append, List.length_take, List.length_drop]; omega)), (by first | omega | (simp only [List.length_map, List.length_cons, List.length_nil, List.length_append, List.length_take, List.length_drop]; omega))⟩))) ?_
          first
            | refine AXd.op rfl (Still.qt (s_index _ _ _ slT_22_g (.inl rfl) rfl rfl (by first | omega | (simp only [List.length_map, List.length_cons, List.length_nil, List.length_append, List.length_take, List.length_drop]; omega)) (List.getElem?_eq_getElem (by first | omega | (simp only [List.length_map, List.length_cons, List.length_nil, List.length_append, List.length_take, List.length_drop]; omega))))) ?_
            | refine AXd.op rfl (Still.qt (s_index _ _ _ slT_22_g (.inr rfl) rfl rfl (by first | omega | (simp only [List.length_map, List.length_cons, List.length_nil, List.length_append, List.length_take, List.length_drop]; omega)) (List.getElem?_eq_getElem (by first | omega | (simp only [List.length_map, List.length_cons, List.length_nil, List.length_append, List.length_take, List.length_drop]; omega))))) ?_
            | refine AXd.op rfl (Still.qt (s_index_own _ _ _ slT_22_g rfl rfl rfl rfl (by first | omega | (simp only [List.length_map, List.length_cons, List.length_nil, List.length_append, List.length_take, List.length_drop]; omega)) (by first | omega | (simp only [List.length_map, List.length_cons, List.length_nil, List.length_append, List.length_take, List.length_drop]; omega)))) ?_
          refine AXd.nm_g0 ?_
          first
            | refine AXd.op rfl (Still.qt (s_field_loc _ _ _ fdT_29_0_g rfl)) ?_
            | refine AXd.op rfl (Still.qt (s_field_ptr _ _ _ fdT_29_0_g rfl)) ?_
            | refine AXd.op rfl (Still.qt (s_field_row _ _ _ fdT_29_0_g rfl rfl)) ?_
          first
            | refine AXd.op rfl (Still.qt (s_load1 _ _ ldT_9_g rfl)) ?_
            | refine AXd.op rfl (Still.qt (s_load1_row _ _ ldT_9_g rfl rfl (by first | rfl | exact List.getElem?_eq_getElem (by omega)) rfl)) ?_
          refine AXd.op rfl (Still.qt (s_scmp _ _ _ _ _ rfl rfl rfl)) ?_
          refine AXd.op rfl (Still.qt (s_pick_t _ _ _ rfl)) ?_
          refine AXd.nm_g0 ?_
          refine AXd.nil ?_
          refine AXl.nil ?_
          refine hK27 _ ?_
          clear hK27 K27
          refine Ethen.n ?_
          refine hK26 _ ?_
          clear hK26 K26
          refine AXc.cond rfl (fun hc29 => ?_) (fun hc29 => ?_)
          · try simp only [decide_eq_true_eq, decide_eq_false_iff_not, Bool.not_eq_true', Bool.not_eq_false', ne_eq, Decidable.not_not, bne_iff_ne, beq_iff_eq, Bool.and_eq_true, Bool.or_eq_true, Bool.and_eq_false_iff, Bool.or_eq_false_iff, Bool.not_not, Ax.u8eq] at hc29
            refine AXc.seq fun K30 hK30 => ?_
            refine AXc.region' fun K31 hK31 => ?_
            refine AXl.qt rfl (by decide : (2:Nat) < 80) (Still.qt (s_assign _)) ?_
            refine AXl.nm_g0 ?_
            refine AXl.nil ?_
            refine hK31 _ ?_
            clear hK31 K31
            refine Ethen.n ?_
            refine hK30 _ ?_
            clear hK30 K30
            refine AXc.ret ?_
            refine Ethen.r ?_
            clear hK25 K25
            refine EinBlock.r ?_
            refine Ethen.r ?_
            clear hK16 K16
            refine Ethen.r ?_
            refine EinBlock.r ?_
            refine Ethen.r ?_
            clear hK9 K9
            refine Fin.ret rfl rfl ?_
            refine congrArg (fun x => [RV.d (.int .i64 x)]) ?_
            first
              | (unfold rightR; rw [if_pos (by omega)])
              | (rw [right_ok (by omega) (fun j hj => hinv j (by omega))])
              | (have g1 := getk1 (l := l) (k := k) (by omega)
                 refine Eq.trans ?_ (right_at (k := k) (by omega) hk hinv ?_).symm
                 · simp only [errAt, getk hk, hk1, within, g1, hc6, hc15, hc22, hg28, hc29, Bool.not_true, Bool.not_false, Bool.and_eq_true, Bool.or_eq_true, Bool.not_eq_true', decide_eq_true_eq, if_true, if_false, true_or, or_true, false_or, or_false, true_and, and_true, false_and, and_false, Bool.false_eq_true, Bool.true_eq_false, reduceCtorEq, not_true, not_false, ↓reduceIte, not_false_eq_true, not_true_eq_false, or_self, and_self, ne_eq, Int.reduceEq, Int.reduceNeg]
                 · simp only [errAt, getk hk, hk1, within, g1, hc6, hc15, hc22, hg28, hc29, Bool.not_true, Bool.not_false, Bool.and_eq_true, Bool.or_eq_true, Bool.not_eq_true', decide_eq_true_eq, if_true, if_false, true_or, or_true, false_or, or_false, true_and, and_true, false_and, and_false, Bool.false_eq_true, Bool.true_eq_false, reduceCtorEq, not_true, not_false, ↓reduceIte, not_false_eq_true, not_true_eq_false, or_self, and_self, ne_eq, Int.reduceEq, Int.reduceNeg])
              | (refine Eq.trans ?_ (right_at (k := k) (by omega) hk hinv ?_).symm
                 · simp only [errAt, getk hk, hk1, within, hc6, hc15, hc22, hg28, hc29, Bool.not_true, Bool.not_false, Bool.and_eq_true, Bool.or_eq_true, Bool.not_eq_true', decide_eq_true_eq, if_true, if_false, true_or, or_true, false_or, or_false, true_and, and_true, false_and, and_false, Bool.false_eq_true, Bool.true_eq_false, reduceCtorEq, not_true, not_false, ↓reduceIte, not_false_eq_true, not_true_eq_false, or_self, and_self, ne_eq, Int.reduceEq, Int.reduceNeg]
                 · simp only [errAt, getk hk, hk1, within, hc6, hc15, hc22, hg28, hc29, Bool.not_true, Bool.not_false, Bool.and_eq_true, Bool.or_eq_true, Bool.not_eq_true', decide_eq_true_eq, if_true, if_false, true_or, or_true, false_or, or_false, true_and, and_true, false_and, and_false, Bool.false_eq_true, Bool.true_eq_false, reduceCtorEq, not_true, not_false, ↓reduceIte, not_false_eq_true, not_true_eq_false, or_self, and_self, ne_eq, Int.reduceEq, Int.reduceNeg])
          · try simp only [decide_eq_true_eq, decide_eq_false_iff_not, Bool.not_eq_true', Bool.not_eq_false', ne_eq, Decidable.not_not, bne_iff_ne, beq_iff_eq, Bool.and_eq_true, Bool.or_eq_true, Bool.and_eq_false_iff, Bool.or_eq_false_iff, Bool.not_not, Ax.u8eq] at hc29
            refine AXc.skip ?_
            refine Ethen.n ?_
            refine hK25 _ ?_
            clear hK25 K25
            refine AXc.seq fun K32 hK32 => ?_
            refine AXc.seq fun K33 hK33 => ?_
            refine AXc.region' fun K34 hK34 => ?_
            first
              | refine AXl.qt rfl (by decide : (35:Nat) < 80) (Still.qt (s_field_loc _ _ _ fdT_29_3_g rfl)) ?_
              | refine AXl.qt rfl (by decide : (35:Nat) < 80) (Still.qt (s_field_ptr _ _ _ fdT_29_3_g rfl)) ?_
              | refine AXl.qt rfl (by decide : (35:Nat) < 80) (Still.qt (s_field_row _ _ _ fdT_29_3_g rfl rfl)) ?_
            first
              | refine AXl.qt rfl (by decide : (36:Nat) < 80) (Still.qt (s_load1 _ _ ldT_9_g rfl)) ?_
              | refine AXl.qt rfl (by decide : (36:Nat) < 80) (Still.qt (s_load1_row _ _ ldT_9_g rfl rfl (by first | rfl | exact List.getElem?_eq_getElem (by omega)) rfl)) ?_
            refine AXl.qt rfl (by decide : (37:Nat) < 80) (Still.qt (s_scmp _ _ _ _ _ rfl rfl rfl)) ?_
            refine AXl.qt rfl (by decide : (38:Nat) < 80) (Still.qt (s_move _)) ?_
            refine AXl.nm_g0 ?_
            refine AXl.split 38 _ rfl (fun hg35 => ?_) (fun hg35 => ?_)
            · try simp only [decide_eq_true_eq, decide_eq_false_iff_not, Bool.not_eq_true', Bool.not_eq_false', ne_eq, Decidable.not_not, bne_iff_ne, beq_iff_eq, Bool.and_eq_true, Bool.or_eq_true, Bool.and_eq_false_iff, Bool.or_eq_false_iff, Bool.not_not, Ax.u8eq] at hg35
              simp only [del, ↓reduceIte, Nat.reduceEqDiff]
              refine AXl.skip_guard (by decide : (39:Nat) < 80) rfl (by kernel_rfl) ?_
              refine AXl.skip_guard (by decide : (40:Nat) < 80) rfl (by kernel_rfl) ?_
              refine AXl.skip_guard (by decide : (41:Nat) < 80) rfl (by kernel_rfl) ?_
              refine AXl.skip_guard (by decide : (42:Nat) < 80) rfl (by kernel_rfl) ?_
              refine AXl.qt rfl (by decide : (43:Nat) < 80) (Still.qt (s_pick_t _ _ _ rfl)) ?_
              refine AXl.qt rfl (by decide : (44:Nat) < 80) (Still.qt (s_move _)) ?_
              refine AXl.skip_guard (by decide : (45:Nat) < 80) rfl (by kernel_rfl) ?_
              refine AXl.skip_guard (by decide : (46:Nat) < 80) rfl (by kernel_rfl) ?_
              refine AXl.skip_guard (by decide : (47:Nat) < 80) rfl (by kernel_rfl) ?_
              refine AXl.skip_guard (by decide : (48:Nat) < 80) rfl (by kernel_rfl) ?_
              refine AXl.qt rfl (by decide : (49:Nat) < 80) (Still.qt (s_pick_t _ _ _ rfl)) ?_
              refine AXl.qt rfl (by decide : (50:Nat) < 80) (Still.qt (s_move _)) ?_
              refine AXl.nm_g0 ?_
              refine AXl.skip_guard (by decide : (51:Nat) < 80) rfl (by kernel_rfl) ?_
              refine AXl.skip_guard (by decide : (52:Nat) < 80) rfl (by kernel_rfl) ?_
              refine AXl.skip_guard (by decide : (53:Nat) < 80) rfl (by kernel_rfl) ?_
              refine AXl.skip_guard (by decide : (54:Nat) < 80) rfl (by kernel_rfl) ?_
              refine AXl.qt rfl (by decide : (55:Nat) < 80) (Still.qt (s_pick_t _ _ _ rfl)) ?_
              refine AXl.qt rfl (by decide : (56:Nat) < 80) (Still.qt (s_move _)) ?_
              refine AXl.skip_guard (by decide : (57:Nat) < 80) rfl (by kernel_rfl) ?_
              refine AXl.skip_guard (by decide : (58:Nat) < 80) rfl (by kernel_rfl) ?_
              refine AXl.skip_guard (by decide : (59:Nat) < 80) rfl (by kernel_rfl) ?_
              refine AXl.skip_guard (by decide : (60:Nat) < 80) rfl (by kernel_rfl) ?_
              refine AXl.skip_guard (by decide : (61:Nat) < 80) rfl (by kernel_rfl) ?_
              refine AXl.skip_guard (by decide : (62:Nat) < 80) rfl (by kernel_rfl) ?_
              refine AXl.nm_g0 ?_
              refine AXl.qt rfl (by decide : (63:Nat) < 80) (Still.qt (s_pick_t _ _ _ rfl)) ?_
              refine AXl.qt rfl (by decide : (64:Nat) < 80) (Still.qt (s_move _)) ?_
              refine AXl.skip_guard (by decide : (65:Nat) < 80) rfl (by kernel_rfl) ?_
              refine AXl.skip_guard (by decide : (66:Nat) < 80) rfl (by kernel_rfl) ?_
              refine AXl.skip_guard (by decide : (67:Nat) < 80) rfl (by kernel_rfl) ?_
              refine AXl.skip_guard (by decide : (68:Nat) < 80) rfl (by kernel_rfl) ?_
              refine AXl.skip_guard (by decide : (69:Nat) < 80) rfl (by kernel_rfl) ?_
              refine AXl.skip_guard (by decide : (70:Nat) < 80) rfl (by kernel_rfl) ?_
              refine AXl.qt rfl (by decide : (71:Nat) < 80) (Still.qt (s_pick_t _ _ _ rfl)) ?_
              refine AXl.nm_g0 ?_
              refine AXl.nil ?_
              refine hK34 _ ?_
              clear hK34 K34
              refine Ethen.n ?_
              refine hK33 _ ?_
              clear hK33 K33
              refine AXc.cond_t rfl ?_
              refine AXc.seq fun K36 hK36 => ?_
              refine AXc.region' fun K37 hK37 => ?_
              refine AXl.qt rfl (by decide : (2:Nat) < 80) (Still.qt (s_assign _)) ?_
              refine AXl.nm_g0 ?_
              refine AXl.nil ?_
              refine hK37 _ ?_
              clear hK37 K37
              refine Ethen.n ?_
              refine hK36 _ ?_
              clear hK36 K36
              refine AXc.ret ?_
              refine Ethen.r ?_
              clear hK32 K32
              refine EinBlock.r ?_
              refine Ethen.r ?_
              clear hK16 K16
              refine Ethen.r ?_
              refine EinBlock.r ?_
              refine Ethen.r ?_
              clear hK9 K9
              refine Fin.ret rfl rfl ?_
              refine congrArg (fun x => [RV.d (.int .i64 x)]) ?_
              first
                | (unfold rightR; rw [if_pos (by omega)])
                | (rw [right_ok (by omega) (fun j hj => hinv j (by omega))])
                | (have g1 := getk1 (l := l) (k := k) (by omega)
                   refine Eq.trans ?_ (right_at (k := k) (by omega) hk hinv ?_).symm
                   · simp only [errAt, getk hk, hk1, within, g1, hc6, hc15, hc22, hg28, hc29, hg35, Bool.not_true, Bool.not_false, Bool.and_eq_true, Bool.or_eq_true, Bool.not_eq_true', decide_eq_true_eq, if_true, if_false, true_or, or_true, false_or, or_false, true_and, and_true, false_and, and_false, Bool.false_eq_true, Bool.true_eq_false, reduceCtorEq, not_true, not_false, ↓reduceIte, not_false_eq_true, not_true_eq_false, or_self, and_self, ne_eq, Int.reduceEq, Int.reduceNeg]
                   · simp only [errAt, getk hk, hk1, within, g1, hc6, hc15, hc22, hg28, hc29, hg35, Bool.not_true, Bool.not_false, Bool.and_eq_true, Bool.or_eq_true, Bool.not_eq_true', decide_eq_true_eq, if_true, if_false, true_or, or_true, false_or, or_false, true_and, and_true, false_and, and_false, Bool.false_eq_true, Bool.true_eq_false, reduceCtorEq, not_true, not_false, ↓reduceIte, not_false_eq_true, not_true_eq_false, or_self, and_self, ne_eq, Int.reduceEq, Int.reduceNeg])
                | (refine Eq.trans ?_ (right_at (k := k) (by omega) hk hinv ?_).symm
                   · simp only [errAt, getk hk, hk1, within, hc6, hc15, hc22, hg28, hc29, hg35, Bool.not_true, Bool.not_false, Bool.and_eq_true, Bool.or_eq_true, Bool.not_eq_true', decide_eq_true_eq, if_true, if_false, true_or, or_true, false_or, or_false, true_and, and_true, false_and, and_false, Bool.false_eq_true, Bool.true_eq_false, reduceCtorEq, not_true, not_false, ↓reduceIte, not_false_eq_true, not_true_eq_false, or_self, and_self, ne_eq, Int.reduceEq, Int.reduceNeg]
                   · simp only [errAt, getk hk, hk1, within, hc6, hc15, hc22, hg28, hc29, hg35, Bool.not_true, Bool.not_false, Bool.and_eq_true, Bool.or_eq_true, Bool.not_eq_true', decide_eq_true_eq, if_true, if_false, true_or, or_true, false_or, or_false, true_and, and_true, false_and, and_false, Bool.false_eq_true, Bool.true_eq_false, reduceCtorEq, not_true, not_false, ↓reduceIte, not_false_eq_true, not_true_eq_false, or_self, and_self, ne_eq, Int.reduceEq, Int.reduceNeg])
            · try simp only [decide_eq_true_eq, decide_eq_false_iff_not, Bool.not_eq_true', Bool.not_eq_false', ne_eq, Decidable.not_not, bne_iff_ne, beq_iff_eq, Bool.and_eq_true, Bool.or_eq_true, Bool.and_eq_false_iff, Bool.or_eq_false_iff, Bool.not_not, Ax.u8eq] at hg35
              simp only [del, ↓reduceIte, Nat.reduceEqDiff]
              first
                | refine AXl.qt_guard (by decide : (39:Nat) < 80) rfl (by kernel_rfl) (Still.qt (s_field_loc _ _ _ fdT_29_3_g rfl)) ?_
                | refine AXl.qt_guard (by decide : (39:Nat) < 80) rfl (by kernel_rfl) (Still.qt (s_field_ptr _ _ _ fdT_29_3_g rfl)) ?_
                | refine AXl.qt_guard (by decide : (39:Nat) < 80) rfl (by kernel_rfl) (Still.qt (s_field_row _ _ _ fdT_29_3_g rfl rfl)) ?_
              first
                | refine AXl.qt_guard (by decide : (40:Nat) < 80) rfl (by kernel_rfl) (Still.qt (s_load1 _ _ ldT_9_g rfl)) ?_
                | refine AXl.qt_guard (by decide : (40:Nat) < 80) rfl (by kernel_rfl) (Still.qt (s_load1_row _ _ ldT_9_g rfl rfl (by first | rfl | exact List.getElem?_eq_getElem (by omega)) rfl)) ?_
              refine AXl.nm_g0 ?_
              refine AXl.qt_guard (by decide : (41:Nat) < 80) rfl (by kernel_rfl) (q_call (c24 _ ?hs) (.cons (by first | exact ArgOk.d | exact ArgOk.bor rfl | exact ArgOk.agg rfl | exact ArgOk.agg (toDs_map _) | exact ArgOk.nil_bor | exact ArgOk.nil_lst | exact ArgOk.fn | exact ArgOk.ptr rfl rfl | exact ArgOk.aggn rfl (by repeat first | exact .nil | refine .cons (.refl _) ?_ | refine .cons (.nil _) ?_)) .nil)) ?_
              case hs => first | exact Nat.le_trans hokr.codes (by decide) | exact Nat.le_trans hokr.once (by decide) | exact Nat.le_trans hokr.needs (by decide)
              refine AXl.qt_guard (by decide : (42:Nat) < 80) rfl (by kernel_rfl) (Still.qt (s_not _ _ rfl)) ?_
              refine AXl.qt rfl (by decide : (43:Nat) < 80) (Still.qt (s_pick_f _ _ _ rfl)) ?_
              refine AXl.qt rfl (by decide : (44:Nat) < 80) (Still.qt (s_move _)) ?_
              refine AXl.nm_g0 ?_
              refine AXl.split 44 _ rfl (fun hg38 => ?_) (fun hg38 => ?_)
              · try simp only [decide_eq_true_eq, decide_eq_false_iff_not, Bool.not_eq_true', Bool.not_eq_false', ne_eq, Decidable.not_not, bne_iff_ne, beq_iff_eq, Bool.and_eq_true, Bool.or_eq_true, Bool.and_eq_false_iff, Bool.or_eq_false_iff, Bool.not_not, Ax.u8eq] at hg38
                simp only [del, ↓reduceIte, Nat.reduceEqDiff]
                refine AXl.skip_guard (by decide : (45:Nat) < 80) rfl (by kernel_rfl) ?_
                refine AXl.skip_guard (by decide : (46:Nat) < 80) rfl (by kernel_rfl) ?_
                refine AXl.skip_guard (by decide : (47:Nat) < 80) rfl (by kernel_rfl) ?_
                refine AXl.skip_guard (by decide : (48:Nat) < 80) rfl (by kernel_rfl) ?_
                refine AXl.qt rfl (by decide : (49:Nat) < 80) (Still.qt (s_pick_t _ _ _ rfl)) ?_
                refine AXl.qt rfl (by decide : (50:Nat) < 80) (Still.qt (s_move _)) ?_
                refine AXl.skip_guard (by decide : (51:Nat) < 80) rfl (by kernel_rfl) ?_
                refine AXl.skip_guard (by decide : (52:Nat) < 80) rfl (by kernel_rfl) ?_
                refine AXl.skip_guard (by decide : (53:Nat) < 80) rfl (by kernel_rfl) ?_
                refine AXl.skip_guard (by decide : (54:Nat) < 80) rfl (by kernel_rfl) ?_
                refine AXl.qt rfl (by decide : (55:Nat) < 80) (Still.qt (s_pick_t _ _ _ rfl)) ?_
                refine AXl.qt rfl (by decide : (56:Nat) < 80) (Still.qt (s_move _)) ?_
                refine AXl.nm_g0 ?_
                refine AXl.skip_guard (by decide : (57:Nat) < 80) rfl (by kernel_rfl) ?_
                refine AXl.skip_guard (by decide : (58:Nat) < 80) rfl (by kernel_rfl) ?_
                refine AXl.skip_guard (by decide : (59:Nat) < 80) rfl (by kernel_rfl) ?_
                refine AXl.skip_guard (by decide : (60:Nat) < 80) rfl (by kernel_rfl) ?_
                refine AXl.skip_guard (by decide : (61:Nat) < 80) rfl (by kernel_rfl) ?_
                refine AXl.skip_guard (by decide : (62:Nat) < 80) rfl (by kernel_rfl) ?_
                refine AXl.qt rfl (by decide : (63:Nat) < 80) (Still.qt (s_pick_t _ _ _ rfl)) ?_
                refine AXl.qt rfl (by decide : (64:Nat) < 80) (Still.qt (s_move _)) ?_
                refine AXl.skip_guard (by decide : (65:Nat) < 80) rfl (by kernel_rfl) ?_
                refine AXl.skip_guard (by decide : (66:Nat) < 80) rfl (by kernel_rfl) ?_
                refine AXl.skip_guard (by decide : (67:Nat) < 80) rfl (by kernel_rfl) ?_
                refine AXl.skip_guard (by decide : (68:Nat) < 80) rfl (by kernel_rfl) ?_
                refine AXl.nm_g0 ?_
                refine AXl.skip_guard (by decide : (69:Nat) < 80) rfl (by kernel_rfl) ?_
                refine AXl.skip_guard (by decide : (70:Nat) < 80) rfl (by kernel_rfl) ?_
                refine AXl.qt rfl (by decide : (71:Nat) < 80) (Still.qt (s_pick_t _ _ _ rfl)) ?_
                refine AXl.nm_g0 ?_
                refine AXl.nil ?_
                refine hK34 _ ?_
                clear hK34 K34
                refine Ethen.n ?_
                refine hK33 _ ?_
                clear hK33 K33
                refine AXc.cond_t rfl ?_
                refine AXc.seq fun K39 hK39 => ?_
                refine AXc.region' fun K40 hK40 => ?_
                refine AXl.qt rfl (by decide : (2:Nat) < 80) (Still.qt (s_assign _)) ?_
                refine AXl.nm_g0 ?_
                refine AXl.nil ?_
                refine hK40 _ ?_
                clear hK40 K40
                refine Ethen.n ?_
                refine hK39 _ ?_
                clear hK39 K39
                refine AXc.ret ?_
                refine Ethen.r ?_
                clear hK32 K32
                refine EinBlock.r ?_
                refine Ethen.r ?_
                clear hK16 K16
                refine Ethen.r ?_
                refine EinBlock.r ?_
                refine Ethen.r ?_
                clear hK9 K9
                refine Fin.ret rfl rfl ?_
                refine congrArg (fun x => [RV.d (.int .i64 x)]) ?_
                first
                  | (unfold rightR; rw [if_pos (by omega)])
                  | (rw [right_ok (by omega) (fun j hj => hinv j (by omega))])
                  | (have g1 := getk1 (l := l) (k := k) (by omega)
                     refine Eq.trans ?_ (right_at (k := k) (by omega) hk hinv ?_).symm
                     · simp only [errAt, getk hk, hk1, within, g1, hc6, hc15, hc22, hg28, hc29, hg35, hg38, Bool.not_true, Bool.not_false, Bool.and_eq_true, Bool.or_eq_true, Bool.not_eq_true', decide_eq_true_eq, if_true, if_false, true_or, or_true, false_or, or_false, true_and, and_true, false_and, and_false, Bool.false_eq_true, Bool.true_eq_false, reduceCtorEq, not_true, not_false, ↓reduceIte, not_false_eq_true, not_true_eq_false, or_self, and_self, ne_eq, Int.reduceEq, Int.reduceNeg]
                     · simp only [errAt, getk hk, hk1, within, g1, hc6, hc15, hc22, hg28, hc29, hg35, hg38, Bool.not_true, Bool.not_false, Bool.and_eq_true, Bool.or_eq_true, Bool.not_eq_true', decide_eq_true_eq, if_true, if_false, true_or, or_true, false_or, or_false, true_and, and_true, false_and, and_false, Bool.false_eq_true, Bool.true_eq_false, reduceCtorEq, not_true, not_false, ↓reduceIte, not_false_eq_true, not_true_eq_false, or_self, and_self, ne_eq, Int.reduceEq, Int.reduceNeg])
                  | (refine Eq.trans ?_ (right_at (k := k) (by omega) hk hinv ?_).symm
                     · simp only [errAt, getk hk, hk1, within, hc6, hc15, hc22, hg28, hc29, hg35, hg38, Bool.not_true, Bool.not_false, Bool.and_eq_true, Bool.or_eq_true, Bool.not_eq_true', decide_eq_true_eq, if_true, if_false, true_or, or_true, false_or, or_false, true_and, and_true, false_and, and_false, Bool.false_eq_true, Bool.true_eq_false, reduceCtorEq, not_true, not_false, ↓reduceIte, not_false_eq_true, not_true_eq_false, or_self, and_self, ne_eq, Int.reduceEq, Int.reduceNeg]
                     · simp only [errAt, getk hk, hk1, within, hc6, hc15, hc22, hg28, hc29, hg35, hg38, Bool.not_true, Bool.not_false, Bool.and_eq_true, Bool.or_eq_true, Bool.not_eq_true', decide_eq_true_eq, if_true, if_false, true_or, or_true, false_or, or_false, true_and, and_true, false_and, and_false, Bool.false_eq_true, Bool.true_eq_false, reduceCtorEq, not_true, not_false, ↓reduceIte, not_false_eq_true, not_true_eq_false, or_self, and_self, ne_eq, Int.reduceEq, Int.reduceNeg])
              · try simp only [decide_eq_true_eq, decide_eq_false_iff_not, Bool.not_eq_true', Bool.not_eq_false', ne_eq, Decidable.not_not, bne_iff_ne, beq_iff_eq, Bool.and_eq_true, Bool.or_eq_true, Bool.and_eq_false_iff, Bool.or_eq_false_iff, Bool.not_not, Ax.u8eq] at hg38
                simp only [del, ↓reduceIte, Nat.reduceEqDiff]
                first
                  | refine AXl.qt_guard (by decide : (45:Nat) < 80) rfl (by kernel_rfl) (Still.qt (s_field_loc _ _ _ fdT_29_4_g rfl)) ?_
                  | refine AXl.qt_guard (by decide : (45:Nat) < 80) rfl (by kernel_rfl) (Still.qt (s_field_ptr _ _ _ fdT_29_4_g rfl)) ?_
                  | refine AXl.qt_guard (by decide : (45:Nat) < 80) rfl (by kernel_rfl) (Still.qt (s_field_row _ _ _ fdT_29_4_g rfl rfl)) ?_
                first
                  | refine AXl.qt_guard (by decide : (46:Nat) < 80) rfl (by kernel_rfl) (Still.qt (s_load1 _ _ ldT_9_g rfl)) ?_
                  | refine AXl.qt_guard (by decide : (46:Nat) < 80) rfl (by kernel_rfl) (Still.qt (s_load1_row _ _ ldT_9_g rfl rfl (by first | rfl | exact List.getElem?_eq_getElem (by omega)) rfl)) ?_
                refine AXl.nm_g0 ?_
                refine AXl.qt_guard (by decide : (47:Nat) < 80) rfl (by kernel_rfl) (q_call (c24 _ ?hs) (.cons (by first | exact ArgOk.d | exact ArgOk.bor rfl | exact ArgOk.agg rfl | exact ArgOk.agg (toDs_map _) | exact ArgOk.nil_bor | exact ArgOk.nil_lst | exact ArgOk.fn | exact ArgOk.ptr rfl rfl | exact ArgOk.aggn rfl (by repeat first | exact .nil | refine .cons (.refl _) ?_ | refine .cons (.nil _) ?_)) .nil)) ?_
                case hs => first | exact Nat.le_trans hokr.codes (by decide) | exact Nat.le_trans hokr.once (by decide) | exact Nat.le_trans hokr.needs (by decide)
                refine AXl.qt_guard (by decide : (48:Nat) < 80) rfl (by kernel_rfl) (Still.qt (s_not _ _ rfl)) ?_
                refine AXl.qt rfl (by decide : (49:Nat) < 80) (Still.qt (s_pick_f _ _ _ rfl)) ?_
                refine AXl.qt rfl (by decide : (50:Nat) < 80) (Still.qt (s_move _)) ?_
                refine AXl.nm_g0 ?_
                refine AXl.split 50 _ rfl (fun hg41 => ?_) (fun hg41 => ?_)
                · try simp only [decide_eq_true_eq, decide_eq_false_iff_not, Bool.not_eq_true', Bool.not_eq_false', ne_eq, Decidable.not_not, bne_iff_ne, beq_iff_eq, Bool.and_eq_true, Bool.or_eq_true, Bool.and_eq_false_iff, Bool.or_eq_false_iff, Bool.not_not, Ax.u8eq] at hg41
                  simp only [del, ↓reduceIte, Nat.reduceEqDiff]
                  refine AXl.skip_guard (by decide : (51:Nat) < 80) rfl (by kernel_rfl) ?_
                  refine AXl.skip_guard (by decide : (52:Nat) < 80) rfl (by kernel_rfl) ?_
                  refine AXl.skip_guard (by decide : (53:Nat) < 80) rfl (by kernel_rfl) ?_
                  refine AXl.skip_guard (by decide : (54:Nat) < 80) rfl (by kernel_rfl) ?_
                  refine AXl.qt rfl (by decide : (55:Nat) < 80) (Still.qt (s_pick_t _ _ _ rfl)) ?_
                  refine AXl.qt rfl (by decide : (56:Nat) < 80) (Still.qt (s_move _)) ?_
                  refine AXl.skip_guard (by decide : (57:Nat) < 80) rfl (by kernel_rfl) ?_
                  refine AXl.skip_guard (by decide : (58:Nat) < 80) rfl (by kernel_rfl) ?_
                  refine AXl.skip_guard (by decide : (59:Nat) < 80) rfl (by kernel_rfl) ?_
                  refine AXl.skip_guard (by decide : (60:Nat) < 80) rfl (by kernel_rfl) ?_
                  refine AXl.skip_guard (by decide : (61:Nat) < 80) rfl (by kernel_rfl) ?_
                  refine AXl.skip_guard (by decide : (62:Nat) < 80) rfl (by kernel_rfl) ?_
                  refine AXl.nm_g0 ?_
                  refine AXl.qt rfl (by decide : (63:Nat) < 80) (Still.qt (s_pick_t _ _ _ rfl)) ?_
                  refine AXl.qt rfl (by decide : (64:Nat) < 80) (Still.qt (s_move _)) ?_
                  refine AXl.skip_guard (by decide : (65:Nat) < 80) rfl (by kernel_rfl) ?_
                  refine AXl.skip_guard (by decide : (66:Nat) < 80) rfl (by kernel_rfl) ?_
                  refine AXl.skip_guard (by decide : (67:Nat) < 80) rfl (by kernel_rfl) ?_
                  refine AXl.skip_guard (by decide : (68:Nat) < 80) rfl (by kernel_rfl) ?_
                  refine AXl.skip_guard (by decide : (69:Nat) < 80) rfl (by kernel_rfl) ?_
                  refine AXl.skip_guard (by decide : (70:Nat) < 80) rfl (by kernel_rfl) ?_
                  refine AXl.qt rfl (by decide : (71:Nat) < 80) (Still.qt (s_pick_t _ _ _ rfl)) ?_
                  refine AXl.nm_g0 ?_
                  refine AXl.nil ?_
                  refine hK34 _ ?_
                  clear hK34 K34
                  refine Ethen.n ?_
                  refine hK33 _ ?_
                  clear hK33 K33
                  refine AXc.cond_t rfl ?_
                  refine AXc.seq fun K42 hK42 => ?_
                  refine AXc.region' fun K43 hK43 => ?_
                  refine AXl.qt rfl (by decide : (2:Nat) < 80) (Still.qt (s_assign _)) ?_
                  refine AXl.nm_g0 ?_
                  refine AXl.nil ?_
                  refine hK43 _ ?_
                  clear hK43 K43
                  refine Ethen.n ?_
                  refine hK42 _ ?_
                  clear hK42 K42
                  refine AXc.ret ?_
                  refine Ethen.r ?_
                  clear hK32 K32
                  refine EinBlock.r ?_
                  refine Ethen.r ?_
                  clear hK16 K16
                  refine Ethen.r ?_
                  refine EinBlock.r ?_
                  refine Ethen.r ?_
                  clear hK9 K9
                  refine Fin.ret rfl rfl ?_
                  refine congrArg (fun x => [RV.d (.int .i64 x)]) ?_
                  first
                    | (unfold rightR; rw [if_pos (by omega)])
                    | (rw [right_ok (by omega) (fun j hj => hinv j (by omega))])
                    | (have g1 := getk1 (l := l) (k := k) (by omega)
                       refine Eq.trans ?_ (right_at (k := k) (by omega) hk hinv ?_).symm
                       · simp only [errAt, getk hk, hk1, within, g1, hc6, hc15, hc22, hg28, hc29, hg35, hg38, hg41, Bool.not_true, Bool.not_false, Bool.and_eq_true, Bool.or_eq_true, Bool.not_eq_true', decide_eq_true_eq, if_true, if_false, true_or, or_true, false_or, or_false, true_and, and_true, false_and, and_false, Bool.false_eq_true, Bool.true_eq_false, reduceCtorEq, not_true, not_false, ↓reduceIte, not_false_eq_true, not_true_eq_false, or_self, and_self, ne_eq, Int.reduceEq, Int.reduceNeg]
                       · simp only [errAt, getk hk, hk1, within, g1, hc6, hc15, hc22, hg28, hc29, hg35, hg38, hg41, Bool.not_true, Bool.not_false, Bool.and_eq_true, Bool.or_eq_true, Bool.not_eq_true', decide_eq_true_eq, if_true, if_false, true_or, or_true, false_or, or_false, true_and, and_true, false_and, and_false, Bool.false_eq_true, Bool.true_eq_false, reduceCtorEq, not_true, not_false, ↓reduceIte, not_false_eq_true, not_true_eq_false, or_self, and_self, ne_eq, Int.reduceEq, Int.reduceNeg])
                    | (refine Eq.trans ?_ (right_at (k := k) (by omega) hk hinv ?_).symm
                       · simp only [errAt, getk hk, hk1, within, hc6, hc15, hc22, hg28, hc29, hg35, hg38, hg41, Bool.not_true, Bool.not_false, Bool.and_eq_true, Bool.or_eq_true, Bool.not_eq_true', decide_eq_true_eq, if_true, if_false, true_or, or_true, false_or, or_false, true_and, and_true, false_and, and_false, Bool.false_eq_true, Bool.true_eq_false, reduceCtorEq, not_true, not_false, ↓reduceIte, not_false_eq_true, not_true_eq_false, or_self, and_self, ne_eq, Int.reduceEq, Int.reduceNeg]
                       · simp only [errAt, getk hk, hk1, within, hc6, hc15, hc22, hg28, hc29, hg35, hg38, hg41, Bool.not_true, Bool.not_false, Bool.and_eq_true, Bool.or_eq_true, Bool.not_eq_true', decide_eq_true_eq, if_true, if_false, true_or, or_true, false_or, or_false, true_and, and_true, false_and, and_false, Bool.false_eq_true, Bool.true_eq_false, reduceCtorEq, not_true, not_false, ↓reduceIte, not_false_eq_true, not_true_eq_false, or_self, and_self, ne_eq, Int.reduceEq, Int.reduceNeg])
                · try simp only [decide_eq_true_eq, decide_eq_false_iff_not, Bool.not_eq_true', Bool.not_eq_false', ne_eq, Decidable.not_not, bne_iff_ne, beq_iff_eq, Bool.and_eq_true, Bool.or_eq_true, Bool.and_eq_false_iff, Bool.or_eq_false_iff, Bool.not_not, Ax.u8eq] at hg41
                  simp only [del, ↓reduceIte, Nat.reduceEqDiff]
                  first
                    | refine AXl.qt_guard (by decide : (51:Nat) < 80) rfl (by kernel_rfl) (Still.qt (s_field_loc _ _ _ fdT_29_5_g rfl)) ?_
                    | refine AXl.qt_guard (by decide : (51:Nat) < 80) rfl (by kernel_rfl) (Still.qt (s_field_ptr _ _ _ fdT_29_5_g rfl)) ?_
                    | refine AXl.qt_guard (by decide : (51:Nat) < 80) rfl (by kernel_rfl) (Still.qt (s_field_row _ _ _ fdT_29_5_g rfl rfl)) ?_
                  first
                    | refine AXl.qt_guard (by decide : (52:Nat) < 80) rfl (by kernel_rfl) (Still.qt (s_load1 _ _ ldT_9_g rfl)) ?_
                    | refine AXl.qt_guard (by decide : (52:Nat) < 80) rfl (by kernel_rfl) (Still.qt (s_load1_row _ _ ldT_9_g rfl rfl (by first | rfl | exact List.getElem?_eq_getElem (by omega)) rfl)) ?_
                  refine AXl.nm_g0 ?_
                  refine AXl.qt_guard (by decide : (53:Nat) < 80) rfl (by kernel_rfl) (q_call (c24 _ ?hs) (.cons (by first | exact ArgOk.d | exact ArgOk.bor rfl | exact ArgOk.agg rfl | exact ArgOk.agg (toDs_map _) | exact ArgOk.nil_bor | exact ArgOk.nil_lst | exact ArgOk.fn | exact ArgOk.ptr rfl rfl | exact ArgOk.aggn rfl (by repeat first | exact .nil | refine .cons (.refl _) ?_ | refine .cons (.nil _) ?_)) .nil)) ?_
                  case hs => first | exact Nat.le_trans hokr.codes (by decide) | exact Nat.le_trans hokr.once (by decide) | exact Nat.le_trans hokr.needs (by decide)
                  refine AXl.qt_guard (by decide : (54:Nat) < 80) rfl (by kernel_rfl) (Still.qt (s_not _ _ rfl)) ?_
                  refine AXl.qt rfl (by decide : (55:Nat) < 80) (Still.qt (s_pick_f _ _ _ rfl)) ?_
                  refine AXl.qt rfl (by decide : (56:Nat) < 80) (Still.qt (s_move _)) ?_
                  refine AXl.nm_g0 ?_
                  refine AXl.split 56 _ rfl (fun hg44 => ?_) (fun hg44 => ?_)
                  · try simp only [decide_eq_true_eq, decide_eq_false_iff_not, Bool.not_eq_true', Bool.not_eq_false', ne_eq, Decidable.not_not, bne_iff_ne, beq_iff_eq, Bool.and_eq_true, Bool.or_eq_true, Bool.and_eq_false_iff, Bool.or_eq_false_iff, Bool.not_not, Ax.u8eq] at hg44
                    simp only [del, ↓reduceIte, Nat.reduceEqDiff]
                    refine AXl.skip_guard (by decide : (57:Nat) < 80) rfl (by kernel_rfl) ?_
                    refine AXl.skip_guard (by decide : (58:Nat) < 80) rfl (by kernel_rfl) ?_
                    refine AXl.skip_guard (by decide : (59:Nat) < 80) rfl (by kernel_rfl) ?_
                    refine AXl.skip_guard (by decide : (60:Nat) < 80) rfl (by kernel_rfl) ?_
                    refine AXl.skip_guard (by decide : (61:Nat) < 80) rfl (by kernel_rfl) ?_
                    refine AXl.skip_guard (by decide : (62:Nat) < 80) rfl (by kernel_rfl) ?_
                    refine AXl.qt rfl (by decide : (63:Nat) < 80) (Still.qt (s_pick_t _ _ _ rfl)) ?_
                    refine AXl.qt rfl (by decide : (64:Nat) < 80) (Still.qt (s_move _)) ?_
                    refine AXl.skip_guard (by decide : (65:Nat) < 80) rfl (by kernel_rfl) ?_
                    refine AXl.skip_guard (by decide : (66:Nat) < 80) rfl (by kernel_rfl) ?_
                    refine AXl.skip_guard (by decide : (67:Nat) < 80) rfl (by kernel_rfl) ?_
                    refine AXl.skip_guard (by decide : (68:Nat) < 80) rfl (by kernel_rfl) ?_
                    refine AXl.nm_g0 ?_
                    refine AXl.skip_guard (by decide : (69:Nat) < 80) rfl (by kernel_rfl) ?_
                    refine AXl.skip_guard (by decide : (70:Nat) < 80) rfl (by kernel_rfl) ?_
                    refine AXl.qt rfl (by decide : (71:Nat) < 80) (Still.qt (s_pick_t _ _ _ rfl)) ?_
                    refine AXl.nm_g0 ?_
                    refine AXl.nil ?_
                    refine hK34 _ ?_
                    clear hK34 K34
                    refine Ethen.n ?_
                    refine hK33 _ ?_
                    clear hK33 K33
                    refine AXc.cond_t rfl ?_
                    refine AXc.seq fun K45 hK45 => ?_
                    refine AXc.region' fun K46 hK46 => ?_
                    refine AXl.qt rfl (by decide : (2:Nat) < 80) (Still.qt (s_assign _)) ?_
                    refine AXl.nm_g0 ?_
                    refine AXl.nil ?_
                    refine hK46 _ ?_
                    clear hK46 K46
                    refine Ethen.n ?_
                    refine hK45 _ ?_
                    clear hK45 K45
                    refine AXc.ret ?_
                    refine Ethen.r ?_
                    clear hK32 K32
                    refine EinBlock.r ?_
                    refine Ethen.r ?_
                    clear hK16 K16
                    refine Ethen.r ?_
                    refine EinBlock.r ?_
                    refine Ethen.r ?_
                    clear hK9 K9
                    refine Fin.ret rfl rfl ?_
                    refine congrArg (fun x => [RV.d (.int .i64 x)]) ?_
                    first
                      | (unfold rightR; rw [if_pos (by omega)])
                      | (rw [right_ok (by omega) (fun j hj => hinv j (by omega))])
                      | (have g1 := getk1 (l := l) (k := k) (by omega)
                         refine Eq.trans ?_ (right_at (k := k) (by omega) hk hinv ?_).symm
                         · simp only [errAt, getk hk, hk1, within, g1, hc6, hc15, hc22, hg28, hc29, hg35, hg38, hg41, hg44, Bool.not_true, Bool.not_false, Bool.and_eq_true, Bool.or_eq_true, Bool.not_eq_true', decide_eq_true_eq, if_true, if_false, true_or, or_true, false_or, or_false, true_and, and_true, false_and, and_false, Bool.false_eq_true, Bool.true_eq_false, reduceCtorEq, not_true, not_false, ↓reduceIte, not_false_eq_true, not_true_eq_false, or_self, and_self, ne_eq, Int.reduceEq, Int.reduceNeg]
                         · simp only [errAt, getk hk, hk1, within, g1, hc6, hc15, hc22, hg28, hc29, hg35, hg38, hg41, hg44, Bool.not_true, Bool.not_false, Bool.and_eq_true, Bool.or_eq_true, Bool.not_eq_true', decide_eq_true_eq, if_true, if_false, true_or, or_true, false_or, or_false, true_and, and_true, false_and, and_false, Bool.false_eq_true, Bool.true_eq_false, reduceCtorEq, not_true, not_false, ↓reduceIte, not_false_eq_true, not_true_eq_false, or_self, and_self, ne_eq, Int.reduceEq, Int.reduceNeg])
                      | (refine Eq.trans ?_ (right_at (k := k) (by omega) hk hinv ?_).symm
                         · simp only [errAt, getk hk, hk1, within, hc6, hc15, hc22, hg28, hc29, hg35, hg38, hg41, hg44, Bool.not_true, Bool.not_false, Bool.and_eq_true, Bool.or_eq_true, Bool.not_eq_true', decide_eq_true_eq, if_true, if_false, true_or, or_true, false_or, or_false, true_and, and_true, false_and, and_false, Bool.false_eq_true, Bool.true_eq_false, reduceCtorEq, not_true, not_false, ↓reduceIte, not_false_eq_true, not_true_eq_false, or_self, and_self, ne_eq, Int.reduceEq, Int.reduceNeg]
                         · simp only [errAt, getk hk, hk1, within, hc6, hc15, hc22, hg28, hc29, hg35, hg38, hg41, hg44, Bool.not_true, Bool.not_false, Bool.and_eq_true, Bool.or_eq_true, Bool.not_eq_true', decide_eq_true_eq, if_true, if_false, true_or, or_true, false_or, or_false, true_and, and_true, false_and, and_false, Bool.false_eq_true, Bool.true_eq_false, reduceCtorEq, not_true, not_false, ↓reduceIte, not_false_eq_true, not_true_eq_false, or_self, and_self, ne_eq, Int.reduceEq, Int.reduceNeg])
                  · try simp only [decide_eq_true_eq, decide_eq_false_iff_not, Bool.not_eq_true', Bool.not_eq_false', ne_eq, Decidable.not_not, bne_iff_ne, beq_iff_eq, Bool.and_eq_true, Bool.or_eq_true, Bool.and_eq_false_iff, Bool.or_eq_false_iff, Bool.not_not, Ax.u8eq] at hg44
                    simp only [del, ↓reduceIte, Nat.reduceEqDiff]
                    first
                      | refine AXl.qt_guard (by decide : (57:Nat) < 80) rfl (by kernel_rfl) (Still.qt (s_field_loc _ _ _ fdT_29_3_g rfl)) ?_
                      | refine AXl.qt_guard (by decide : (57:Nat) < 80) rfl (by kernel_rfl) (Still.qt (s_field_ptr _ _ _ fdT_29_3_g rfl)) ?_
                      | refine AXl.qt_guard (by decide : (57:Nat) < 80) rfl (by kernel_rfl) (Still.qt (s_field_row _ _ _ fdT_29_3_g rfl rfl)) ?_
                    first
                      | refine AXl.qt_guard (by decide : (58:Nat) < 80) rfl (by kernel_rfl) (Still.qt (s_load1 _ _ ldT_9_g rfl)) ?_
                      | refine AXl.qt_guard (by decide : (58:Nat) < 80) rfl (by kernel_rfl) (Still.qt (s_load1_row _ _ ldT_9_g rfl rfl (by first | rfl | exact List.getElem?_eq_getElem (by omega)) rfl)) ?_
                    first
                      | refine AXl.qt_guard (by decide : (59:Nat) < 80) rfl (by kernel_rfl) (Still.qt (s_field_loc _ _ _ fdT_29_4_g rfl)) ?_
                      | refine AXl.qt_guard (by decide : (59:Nat) < 80) rfl (by kernel_rfl) (Still.qt (s_field_ptr _ _ _ fdT_29_4_g rfl)) ?_
                      | refine AXl.qt_guard (by decide : (59:Nat) < 80) rfl (by kernel_rfl) (Still.qt (s_field_row _ _ _ fdT_29_4_g rfl rfl)) ?_
                    first
                      | refine AXl.qt_guard (by decide : (60:Nat) < 80) rfl (by kernel_rfl) (Still.qt (s_load1 _ _ ldT_9_g rfl)) ?_
                      | refine AXl.qt_guard (by decide : (60:Nat) < 80) rfl (by kernel_rfl) (Still.qt (s_load1_row _ _ ldT_9_g rfl rfl (by first | rfl | exact List.getElem?_eq_getElem (by omega)) rfl)) ?_
                    refine AXl.nm_g0 ?_
                    refine AXl.qt_guard (by decide : (61:Nat) < 80) rfl (by kernel_rfl) (q_call (c25 _ _ ?hs ?ht) (.cons (by first | exact ArgOk.d | exact ArgOk.bor rfl | exact ArgOk.agg rfl | exact ArgOk.agg (toDs_map _) | exact ArgOk.nil_bor | exact ArgOk.nil_lst | exact ArgOk.fn | exact ArgOk.ptr rfl rfl | exact ArgOk.aggn rfl (by repeat first | exact .nil | refine .cons (.refl _) ?_ | refine .cons (.nil _) ?_)) (.cons (by first | exact ArgOk.d | exact ArgOk.bor rfl | exact ArgOk.agg rfl | exact ArgOk.agg (toDs_map _) | exact ArgOk.nil_bor | exact ArgOk.nil_lst | exact ArgOk.fn | exact ArgOk.ptr rfl rfl | exact ArgOk.aggn rfl (by repeat first | exact .nil | refine .cons (.refl _) ?_ | refine .cons (.nil _) ?_)) .nil))) ?_
                    case hs => exact Nat.le_trans hokr.codes (by decide)
                    case ht => first | exact Nat.le_trans hokr.once (by decide) | exact Nat.le_trans hokr.needs (by decide)
                    refine AXl.qt_guard (by decide : (62:Nat) < 80) rfl (by kernel_rfl) (Still.qt (s_not _ _ rfl)) ?_
                    refine AXl.qt rfl (by decide : (63:Nat) < 80) (Still.qt (s_pick_f _ _ _ rfl)) ?_
                    refine AXl.qt rfl (by decide : (64:Nat) < 80) (Still.qt (s_move _)) ?_
                    refine AXl.nm_g0 ?_
                    refine AXl.split 64 _ rfl (fun hg47 => ?_) (fun hg47 => ?_)
                    · try simp only [decide_eq_true_eq, decide_eq_false_iff_not, Bool.not_eq_true', Bool.not_eq_false', ne_eq, Decidable.not_not, bne_iff_ne, beq_iff_eq, Bool.and_eq_true, Bool.or_eq_true, Bool.and_eq_false_iff, Bool.or_eq_false_iff, Bool.not_not, Ax.u8eq] at hg47
                      simp only [del, ↓reduceIte, Nat.reduceEqDiff]
                      refine AXl.skip_guard (by decide : (65:Nat) < 80) rfl (by kernel_rfl) ?_
                      refine AXl.skip_guard (by decide : (66:Nat) < 80) rfl (by kernel_rfl) ?_
                      refine AXl.skip_guard (by decide : (67:Nat) < 80) rfl (by kernel_rfl) ?_
                      refine AXl.skip_guard (by decide : (68:Nat) < 80) rfl (by kernel_rfl) ?_
                      refine AXl.skip_guard (by decide : (69:Nat) < 80) rfl (by kernel_rfl) ?_
                      refine AXl.skip_guard (by decide : (70:Nat) < 80) rfl (by kernel_rfl) ?_
                      refine AXl.qt rfl (by decide : (71:Nat) < 80) (Still.qt (s_pick_t _ _ _ rfl)) ?_
                      refine AXl.nm_g0 ?_
                      refine AXl.nil ?_
                      refine hK34 _ ?_
                      clear hK34 K34
                      refine Ethen.n ?_
                      refine hK33 _ ?_
                      clear hK33 K33
                      refine AXc.cond_t rfl ?_
                      refine AXc.seq fun K48 hK48 => ?_
                      refine AXc.region' fun K49 hK49 => ?_
                      refine AXl.qt rfl (by decide : (2:Nat) < 80) (Still.qt (s_assign _)) ?_
                      refine AXl.nm_g0 ?_
                      refine AXl.nil ?_
                      refine hK49 _ ?_
                      clear hK49 K49
                      refine Ethen.n ?_
                      refine hK48 _ ?_
                      clear hK48 K48
                      refine AXc.ret ?_
                      refine Ethen.r ?_
                      clear hK32 K32
                      refine EinBlock.r ?_
                      refine Ethen.r ?_
                      clear hK16 K16
                      refine Ethen.r ?_
                      refine EinBlock.r ?_
                      refine Ethen.r ?_
                      clear hK9 K9
                      refine Fin.ret rfl rfl ?_
                      refine congrArg (fun x => [RV.d (.int .i64 x)]) ?_
                      first
                        | (unfold rightR; rw [if_pos (by omega)])
                        | (rw [right_ok (by omega) (fun j hj => hinv j (by omega))])
                        | (have g1 := getk1 (l := l) (k := k) (by omega)
                           refine Eq.trans ?_ (right_at (k := k) (by omega) hk hinv ?_).symm
                           · simp only [errAt, getk hk, hk1, within, g1, hc6, hc15, hc22, hg28, hc29, hg35, hg38, hg41, hg44, hg47, Bool.not_true, Bool.not_false, Bool.and_eq_true, Bool.or_eq_true, Bool.not_eq_true', decide_eq_true_eq, if_true, if_false, true_or, or_true, false_or, or_false, true_and, and_true, false_and, and_false, Bool.false_eq_true, Bool.true_eq_false, reduceCtorEq, not_true, not_false, ↓reduceIte, not_false_eq_true, not_true_eq_false, or_self, and_self, ne_eq, Int.reduceEq, Int.reduceNeg]
                           · simp only [errAt, getk hk, hk1, within, g1, hc6, hc15, hc22, hg28, hc29, hg35, hg38, hg41, hg44, hg47, Bool.not_true, Bool.not_false, Bool.and_eq_true, Bool.or_eq_true, Bool.not_eq_true', decide_eq_true_eq, if_true, if_false, true_or, or_true, false_or, or_false, true_and, and_true, false_and, and_false, Bool.false_eq_true, Bool.true_eq_false, reduceCtorEq, not_true, not_false, ↓reduceIte, not_false_eq_true, not_true_eq_false, or_self, and_self, ne_eq, Int.reduceEq, Int.reduceNeg])
                        | (refine Eq.trans ?_ (right_at (k := k) (by omega) hk hinv ?_).symm
                           · simp only [errAt, getk hk, hk1, within, hc6, hc15, hc22, hg28, hc29, hg35, hg38, hg41, hg44, hg47, Bool.not_true, Bool.not_false, Bool.and_eq_true, Bool.or_eq_true, Bool.not_eq_true', decide_eq_true_eq, if_true, if_false, true_or, or_true, false_or, or_false, true_and, and_true, false_and, and_false, Bool.false_eq_true, Bool.true_eq_false, reduceCtorEq, not_true, not_false, ↓reduceIte, not_false_eq_true, not_true_eq_false, or_self, and_self, ne_eq, Int.reduceEq, Int.reduceNeg]
                           · simp only [errAt, getk hk, hk1, within, hc6, hc15, hc22, hg28, hc29, hg35, hg38, hg41, hg44, hg47, Bool.not_true, Bool.not_false, Bool.and_eq_true, Bool.or_eq_true, Bool.not_eq_true', decide_eq_true_eq, if_true, if_false, true_or, or_true, false_or, or_false, true_and, and_true, false_and, and_false, Bool.false_eq_true, Bool.true_eq_false, reduceCtorEq, not_true, not_false, ↓reduceIte, not_false_eq_true, not_true_eq_false, or_self, and_self, ne_eq, Int.reduceEq, Int.reduceNeg])
                    · try simp only [decide_eq_true_eq, decide_eq_false_iff_not, Bool.not_eq_true', Bool.not_eq_false', ne_eq, Decidable.not_not, bne_iff_ne, beq_iff_eq, Bool.and_eq_true, Bool.or_eq_true, Bool.and_eq_false_iff, Bool.or_eq_false_iff, Bool.not_not, Ax.u8eq] at hg47
                      simp only [del, ↓reduceIte, Nat.reduceEqDiff]
                      first
                        | refine AXl.qt_guard (by decide : (65:Nat) < 80) rfl (by kernel_rfl) (Still.qt (s_field_loc _ _ _ fdT_29_3_g rfl)) ?_
                        | refine AXl.qt_guard (by decide : (65:Nat) < 80) rfl (by kernel_rfl) (Still.qt (s_field_ptr _ _ _ fdT_29_3_g rfl)) ?_
                        | refine AXl.qt_guard (by decide : (65:Nat) < 80) rfl (by kernel_rfl) (Still.qt (s_field_row _ _ _ fdT_29_3_g rfl rfl)) ?_
                      first
                        | refine AXl.qt_guard (by decide : (66:Nat) < 80) rfl (by kernel_rfl) (Still.qt (s_load1 _ _ ldT_9_g rfl)) ?_
                        | refine AXl.qt_guard (by decide : (66:Nat) < 80) rfl (by kernel_rfl) (Still.qt (s_load1_row _ _ ldT_9_g rfl rfl (by first | rfl | exact List.getElem?_eq_getElem (by omega)) rfl)) ?_
                      first
                        | refine AXl.qt_guard (by decide : (67:Nat) < 80) rfl (by kernel_rfl) (Still.qt (s_field_loc _ _ _ fdT_29_5_g rfl)) ?_
                        | refine AXl.qt_guard (by decide : (67:Nat) < 80) rfl (by kernel_rfl) (Still.qt (s_field_ptr _ _ _ fdT_29_5_g rfl)) ?_
                        | refine AXl.qt_guard (by decide : (67:Nat) < 80) rfl (by kernel_rfl) (Still.qt (s_field_row _ _ _ fdT_29_5_g rfl rfl)) ?_
                      first
                        | refine AXl.qt_guard (by decide : (68:Nat) < 80) rfl (by kernel_rfl) (Still.qt (s_load1 _ _ ldT_9_g rfl)) ?_
                        | refine AXl.qt_guard (by decide : (68:Nat) < 80) rfl (by kernel_rfl) (Still.qt (s_load1_row _ _ ldT_9_g rfl rfl (by first | rfl | exact List.getElem?_eq_getElem (by omega)) rfl)) ?_
                      refine AXl.nm_g0 ?_
                      refine AXl.qt_guard (by decide : (69:Nat) < 80) rfl (by kernel_rfl) (q_call (c25 _ _ ?hs ?ht) (.cons (by first | exact ArgOk.d | exact ArgOk.bor rfl | exact ArgOk.agg rfl | exact ArgOk.agg (toDs_map _) | exact ArgOk.nil_bor | exact ArgOk.nil_lst | exact ArgOk.fn | exact ArgOk.ptr rfl rfl | exact ArgOk.aggn rfl (by repeat first | exact .nil | refine .cons (.refl _) ?_ | refine .cons (.nil _) ?_)) (.cons (by first | exact ArgOk.d | exact ArgOk.bor rfl | exact ArgOk.agg rfl | exact ArgOk.agg (toDs_map _) | exact ArgOk.nil_bor | exact ArgOk.nil_lst | exact ArgOk.fn | exact ArgOk.ptr rfl rfl | exact ArgOk.aggn rfl (by repeat first | exact .nil | refine .cons (.refl _) ?_ | refine .cons (.nil _) ?_)) .nil))) ?_
                      case hs => exact Nat.le_trans hokr.codes (by decide)
                      case ht => first | exact Nat.le_trans hokr.once (by decide) | exact Nat.le_trans hokr.needs (by decide)
                      refine AXl.qt_guard (by decide : (70:Nat) < 80) rfl (by kernel_rfl) (Still.qt (s_not _ _ rfl)) ?_
                      refine AXl.qt rfl (by decide : (71:Nat) < 80) (Still.qt (s_pick_f _ _ _ rfl)) ?_
                      refine AXl.nm_g0 ?_
                      refine AXl.nil ?_
                      refine hK34 _ ?_
                      clear hK34 K34
                      refine Ethen.n ?_
                      refine hK33 _ ?_
                      clear hK33 K33
                      refine AXc.cond rfl (fun hc50 => ?_) (fun hc50 => ?_)
                      · try simp only [decide_eq_true_eq, decide_eq_false_iff_not, Bool.not_eq_true', Bool.not_eq_false', ne_eq, Decidable.not_not, bne_iff_ne, beq_iff_eq, Bool.and_eq_true, Bool.or_eq_true, Bool.and_eq_false_iff, Bool.or_eq_false_iff, Bool.not_not, Ax.u8eq] at hc50
                        refine AXc.seq fun K51 hK51 => ?_
                        refine AXc.region' fun K52 hK52 => ?_
                        refine AXl.qt rfl (by decide : (2:Nat) < 80) (Still.qt (s_assign _)) ?_
                        refine AXl.nm_g0 ?_
                        refine AXl.nil ?_
                        refine hK52 _ ?_
                        clear hK52 K52
                        refine Ethen.n ?_
                        refine hK51 _ ?_
                        clear hK51 K51
                        refine AXc.ret ?_
                        refine Ethen.r ?_
                        clear hK32 K32
                        refine EinBlock.r ?_
                        refine Ethen.r ?_
                        clear hK16 K16
                        refine Ethen.r ?_
                        refine EinBlock.r ?_
                        refine Ethen.r ?_
                        clear hK9 K9
                        refine Fin.ret rfl rfl ?_
                        refine congrArg (fun x => [RV.d (.int .i64 x)]) ?_
                        first
                          | (unfold rightR; rw [if_pos (by omega)])
                          | (rw [right_ok (by omega) (fun j hj => hinv j (by omega))])
                          | (have g1 := getk1 (l := l) (k := k) (by omega)
                             refine Eq.trans ?_ (right_at (k := k) (by omega) hk hinv ?_).symm
                             · simp only [errAt, getk hk, hk1, within, g1, hc6, hc15, hc22, hg28, hc29, hg35, hg38, hg41, hg44, hg47, hc50, Bool.not_true, Bool.not_false, Bool.and_eq_true, Bool.or_eq_true, Bool.not_eq_true', decide_eq_true_eq, if_true, if_false, true_or, or_true, false_or, or_false, true_and, and_true, false_and, and_false, Bool.false_eq_true, Bool.true_eq_false, reduceCtorEq, not_true, not_false, ↓reduceIte, not_false_eq_true, not_true_eq_false, or_self, and_self, ne_eq, Int.reduceEq, Int.reduceNeg]
                             · simp only [errAt, getk hk, hk1, within, g1, hc6, hc15, hc22, hg28, hc29, hg35, hg38, hg41, hg44, hg47, hc50, Bool.not_true, Bool.not_false, Bool.and_eq_true, Bool.or_eq_true, Bool.not_eq_true', decide_eq_true_eq, if_true, if_false, true_or, or_true, false_or, or_false, true_and, and_true, false_and, and_false, Bool.false_eq_true, Bool.true_eq_false, reduceCtorEq, not_true, not_false, ↓reduceIte, not_false_eq_true, not_true_eq_false, or_self, and_self, ne_eq, Int.reduceEq, Int.reduceNeg])
                          | (refine Eq.trans ?_ (right_at (k := k) (by omega) hk hinv ?_).symm
                             · simp only [errAt, getk hk, hk1, within, hc6, hc15, hc22, hg28, hc29, hg35, hg38, hg41, hg44, hg47, hc50, Bool.not_true, Bool.not_false, Bool.and_eq_true, Bool.or_eq_true, Bool.not_eq_true', decide_eq_true_eq, if_true, if_false, true_or, or_true, false_or, or_false, true_and, and_true, false_and, and_false, Bool.false_eq_true, Bool.true_eq_false, reduceCtorEq, not_true, not_false, ↓reduceIte, not_false_eq_true, not_true_eq_false, or_self, and_self, ne_eq, Int.reduceEq, Int.reduceNeg]
                             · simp only [errAt, getk hk, hk1, within, hc6, hc15, hc22, hg28, hc29, hg35, hg38, hg41, hg44, hg47, hc50, Bool.not_true, Bool.not_false, Bool.and_eq_true, Bool.or_eq_true, Bool.not_eq_true', decide_eq_true_eq, if_true, if_false, true_or, or_true, false_or, or_false, true_and, and_true, false_and, and_false, Bool.false_eq_true, Bool.true_eq_false, reduceCtorEq, not_true, not_false, ↓reduceIte, not_false_eq_true, not_true_eq_false, or_self, and_self, ne_eq, Int.reduceEq, Int.reduceNeg])
                      · try simp only [decide_eq_true_eq, decide_eq_false_iff_not, Bool.not_eq_true', Bool.not_eq_false', ne_eq, Decidable.not_not, bne_iff_ne, beq_iff_eq, Bool.and_eq_true, Bool.or_eq_true, Bool.and_eq_false_iff, Bool.or_eq_false_iff, Bool.not_not, Ax.u8eq] at hc50
                        refine AXc.skip ?_
                        refine Ethen.n ?_
                        refine hK32 _ ?_
                        clear hK32 K32
                        refine AXc.seq fun K53 hK53 => ?_
                        refine AXc.region' fun K54 hK54 => ?_
                        first
                          | refine AXl.qt rfl (by decide : (72:Nat) < 80) (Still.qt (s_field_loc _ _ _ fdT_29_6_g rfl)) ?_
                          | refine AXl.qt rfl (by decide : (72:Nat) < 80) (Still.qt (s_field_ptr _ _ _ fdT_29_6_g rfl)) ?_
                          | refine AXl.qt rfl (by decide : (72:Nat) < 80) (Still.qt (s_field_row _ _ _ fdT_29_6_g rfl rfl)) ?_
                        first
                          | refine AXl.qt rfl (by decide : (73:Nat) < 80) (Still.qt (s_load1 _ _ ldT_3_g rfl)) ?_
                          | refine AXl.qt rfl (by decide : (73:Nat) < 80) (Still.qt (s_load1_row _ _ ldT_3_g rfl rfl (by first | rfl | exact List.getElem?_eq_getElem (by omega)) rfl)) ?_
                        refine AXl.qt rfl (by decide : (74:Nat) < 80) (Still.qt (s_icmp _ _ _ _ _ rfl rfl rfl)) ?_
                        refine AXl.qt rfl (by decide : (75:Nat) < 80) (Still.qt (s_move _)) ?_
                        refine AXl.nm_g0 ?_
                        refine AXl.split 75 _ rfl (fun hg55 => ?_) (fun hg55 => ?_)
                        · try simp only [decide_eq_true_eq, decide_eq_false_iff_not, Bool.not_eq_true', Bool.not_eq_false', ne_eq, Decidable.not_not, bne_iff_ne, beq_iff_eq, Bool.and_eq_true, Bool.or_eq_true, Bool.and_eq_false_iff, Bool.or_eq_false_iff, Bool.not_not, Ax.u8eq] at hg55
                          simp only [del, ↓reduceIte, Nat.reduceEqDiff]
                          refine AXl.skip_guard (by decide : (76:Nat) < 80) rfl (by kernel_rfl) ?_
                          refine AXl.skip_guard (by decide : (77:Nat) < 80) rfl (by kernel_rfl) ?_
                          refine AXl.skip_guard (by decide : (78:Nat) < 80) rfl (by kernel_rfl) ?_
                          refine AXl.qt rfl (by decide : (79:Nat) < 80) (Still.qt (s_pick_t _ _ _ rfl)) ?_
                          refine AXl.nm_g0 ?_
                          refine AXl.nil ?_
                          refine hK54 _ ?_
                          clear hK54 K54
                          refine Ethen.n ?_
                          refine hK53 _ ?_
                          clear hK53 K53
                          refine AXc.cond_t rfl ?_
                          refine AXc.seq fun K56 hK56 => ?_
                          refine AXc.region' fun K57 hK57 => ?_
                          refine AXl.qt rfl (by decide : (2:Nat) < 80) (Still.qt (s_assign _)) ?_
                          refine AXl.nm_g0 ?_
                          refine AXl.nil ?_
                          refine hK57 _ ?_
                          clear hK57 K57
                          refine Ethen.n ?_
                          refine hK56 _ ?_
                          clear hK56 K56
                          refine AXc.ret ?_
                          refine EinBlock.r ?_
                          refine Ethen.r ?_
                          clear hK16 K16
                          refine Ethen.r ?_
                          refine EinBlock.r ?_
                          refine Ethen.r ?_
                          clear hK9 K9
                          refine Fin.ret rfl rfl ?_
                          refine congrArg (fun x => [RV.d (.int .i64 x)]) ?_
                          first
                            | (unfold rightR; rw [if_pos (by omega)])
                            | (rw [right_ok (by omega) (fun j hj => hinv j (by omega))])
                            | (have g1 := getk1 (l := l) (k := k) (by omega)
                               refine Eq.trans ?_ (right_at (k := k) (by omega) hk hinv ?_).symm
                               · simp only [errAt, getk hk, hk1, within, g1, hc6, hc15, hc22, hg28, hc29, hg35, hg38, hg41, hg44, hg47, hc50, hg55, Bool.not_true, Bool.not_false, Bool.and_eq_true, Bool.or_eq_true, Bool.not_eq_true', decide_eq_true_eq, if_true, if_false, true_or, or_true, false_or, or_false, true_and, and_true, false_and, and_false, Bool.false_eq_true, Bool.true_eq_false, reduceCtorEq, not_true, not_false, ↓reduceIte, not_false_eq_true, not_true_eq_false, or_self, and_self, ne_eq, Int.reduceEq, Int.reduceNeg]
                               · simp only [errAt, getk hk, hk1, within, g1, hc6, hc15, hc22, hg28, hc29, hg35, hg38, hg41, hg44, hg47, hc50, hg55, Bool.not_true, Bool.not_false, Bool.and_eq_true, Bool.or_eq_true, Bool.not_eq_true', decide_eq_true_eq, if_true, if_false, true_or, or_true, false_or, or_false, true_and, and_true, false_and, and_false, Bool.false_eq_true, Bool.true_eq_false, reduceCtorEq, not_true, not_false, ↓reduceIte, not_false_eq_true, not_true_eq_false, or_self, and_self, ne_eq, Int.reduceEq, Int.reduceNeg])
                            | (refine Eq.trans ?_ (right_at (k := k) (by omega) hk hinv ?_).symm
                               · simp only [errAt, getk hk, hk1, within, hc6, hc15, hc22, hg28, hc29, hg35, hg38, hg41, hg44, hg47, hc50, hg55, Bool.not_true, Bool.not_false, Bool.and_eq_true, Bool.or_eq_true, Bool.not_eq_true', decide_eq_true_eq, if_true, if_false, true_or, or_true, false_or, or_false, true_and, and_true, false_and, and_false, Bool.false_eq_true, Bool.true_eq_false, reduceCtorEq, not_true, not_false, ↓reduceIte, not_false_eq_true, not_true_eq_false, or_self, and_self, ne_eq, Int.reduceEq, Int.reduceNeg]
                               · simp only [errAt, getk hk, hk1, within, hc6, hc15, hc22, hg28, hc29, hg35, hg38, hg41, hg44, hg47, hc50, hg55, Bool.not_true, Bool.not_false, Bool.and_eq_true, Bool.or_eq_true, Bool.not_eq_true', decide_eq_true_eq, if_true, if_false, true_or, or_true, false_or, or_false, true_and, and_true, false_and, and_false, Bool.false_eq_true, Bool.true_eq_false, reduceCtorEq, not_true, not_false, ↓reduceIte, not_false_eq_true, not_true_eq_false, or_self, and_self, ne_eq, Int.reduceEq, Int.reduceNeg])
                        · try simp only [decide_eq_true_eq, decide_eq_false_iff_not, Bool.not_eq_true', Bool.not_eq_false', ne_eq, Decidable.not_not, bne_iff_ne, beq_iff_eq, Bool.and_eq_true, Bool.or_eq_true, Bool.and_eq_false_iff, Bool.or_eq_false_iff, Bool.not_not, Ax.u8eq] at hg55
                          simp only [del, ↓reduceIte, Nat.reduceEqDiff]
                          first
                            | refine AXl.qt_guard (by decide : (76:Nat) < 80) rfl (by kernel_rfl) (Still.qt (s_field_loc _ _ _ fdT_29_6_g rfl)) ?_
                            | refine AXl.qt_guard (by decide : (76:Nat) < 80) rfl (by kernel_rfl) (Still.qt (s_field_ptr _ _ _ fdT_29_6_g rfl)) ?_
                            | refine AXl.qt_guard (by decide : (76:Nat) < 80) rfl (by kernel_rfl) (Still.qt (s_field_row _ _ _ fdT_29_6_g rfl rfl)) ?_
                          first
                            | refine AXl.qt_guard (by decide : (77:Nat) < 80) rfl (by kernel_rfl) (Still.qt (s_load1 _ _ ldT_3_g rfl)) ?_
                            | refine AXl.qt_guard (by decide : (77:Nat) < 80) rfl (by kernel_rfl) (Still.qt (s_load1_row _ _ ldT_3_g rfl rfl (by first | rfl | exact List.getElem?_eq_getElem (by omega)) rfl)) ?_
                          refine AXl.qt_guard (by decide : (78:Nat) < 80) rfl (by kernel_rfl) (Still.qt (s_icmp _ _ _ _ _ rfl rfl rfl)) ?_
                          refine AXl.qt rfl (by decide : (79:Nat) < 80) (Still.qt (s_pick_f _ _ _ rfl)) ?_
                          refine AXl.nm_g0 ?_
                          refine AXl.nil ?_
                          refine hK54 _ ?_
                          clear hK54 K54
                          refine Ethen.n ?_
                          refine hK53 _ ?_
                          clear hK53 K53
                          refine AXc.cond rfl (fun hc58 => ?_) (fun hc58 => ?_)
                          · try simp only [decide_eq_true_eq, decide_eq_false_iff_not, Bool.not_eq_true', Bool.not_eq_false', ne_eq, Decidable.not_not, bne_iff_ne, beq_iff_eq, Bool.and_eq_true, Bool.or_eq_true, Bool.and_eq_false_iff, Bool.or_eq_false_iff, Bool.not_not, Ax.u8eq] at hc58
                            refine AXc.seq fun K59 hK59 => ?_
                            refine AXc.region' fun K60 hK60 => ?_
                            refine AXl.qt rfl (by decide : (2:Nat) < 80) (Still.qt (s_assign _)) ?_
                            refine AXl.nm_g0 ?_
                            refine AXl.nil ?_
                            refine hK60 _ ?_
                            clear hK60 K60
                            refine Ethen.n ?_
                            refine hK59 _ ?_
                            clear hK59 K59
                            refine AXc.ret ?_
                            refine EinBlock.r ?_
                            refine Ethen.r ?_
                            clear hK16 K16
                            refine Ethen.r ?_
                            refine EinBlock.r ?_
                            refine Ethen.r ?_
                            clear hK9 K9
                            refine Fin.ret rfl rfl ?_
                            refine congrArg (fun x => [RV.d (.int .i64 x)]) ?_
                            first
                              | (unfold rightR; rw [if_pos (by omega)])
                              | (rw [right_ok (by omega) (fun j hj => hinv j (by omega))])
                              | (have g1 := getk1 (l := l) (k := k) (by omega)
                                 refine Eq.trans ?_ (right_at (k := k) (by omega) hk hinv ?_).symm
                                 · simp only [errAt, getk hk, hk1, within, g1, hc6, hc15, hc22, hg28, hc29, hg35, hg38, hg41, hg44, hg47, hc50, hg55, hc58, Bool.not_true, Bool.not_false, Bool.and_eq_true, Bool.or_eq_true, Bool.not_eq_true', decide_eq_true_eq, if_true, if_false, true_or, or_true, false_or, or_false, true_and, and_true, false_and, and_false, Bool.false_eq_true, Bool.true_eq_false, reduceCtorEq, not_true, not_false, ↓reduceIte, not_false_eq_true, not_true_eq_false, or_self, and_self, ne_eq, Int.reduceEq, Int.reduceNeg]
                                 · simp only [errAt, getk hk, hk1, within, g1, hc6, hc15, hc22, hg28, hc29, hg35, hg38, hg41, hg44, hg47, hc50, hg55, hc58, Bool.not_true, Bool.not_false, Bool.and_eq_true, Bool.or_eq_true, Bool.not_eq_true', decide_eq_true_eq, if_true, if_false, true_or, or_true, false_or, or_false, true_and, and_true, false_and, and_false, Bool.false_eq_true, Bool.true_eq_false, reduceCtorEq, not_true, not_false, ↓reduceIte, not_false_eq_true, not_true_eq_false, or_self, and_self, ne_eq, Int.reduceEq, Int.reduceNeg])
                              | (refine Eq.trans ?_ (right_at (k := k) (by omega) hk hinv ?_).symm
                                 · simp only [errAt, getk hk, hk1, within, hc6, hc15, hc22, hg28, hc29, hg35, hg38, hg41, hg44, hg47, hc50, hg55, hc58, Bool.not_true, Bool.not_false, Bool.and_eq_true, Bool.or_eq_true, Bool.not_eq_true', decide_eq_true_eq, if_true, if_false, true_or, or_true, false_or, or_false, true_and, and_true, false_and, and_false, Bool.false_eq_true, Bool.true_eq_false, reduceCtorEq, not_true, not_false, ↓reduceIte, not_false_eq_true, not_true_eq_false, or_self, and_self, ne_eq, Int.reduceEq, Int.reduceNeg]
                                 · simp only [errAt, getk hk, hk1, within, hc6, hc15, hc22, hg28, hc29, hg35, hg38, hg41, hg44, hg47, hc50, hg55, hc58, Bool.not_true, Bool.not_false, Bool.and_eq_true, Bool.or_eq_true, Bool.not_eq_true', decide_eq_true_eq, if_true, if_false, true_or, or_true, false_or, or_false, true_and, and_true, false_and, and_false, Bool.false_eq_true, Bool.true_eq_false, reduceCtorEq, not_true, not_false, ↓reduceIte, not_false_eq_true, not_true_eq_false, or_self, and_self, ne_eq, Int.reduceEq, Int.reduceNeg])
                          · try simp only [decide_eq_true_eq, decide_eq_false_iff_not, Bool.not_eq_true', Bool.not_eq_false', ne_eq, Decidable.not_not, bne_iff_ne, beq_iff_eq, Bool.and_eq_true, Bool.or_eq_true, Bool.and_eq_false_iff, Bool.or_eq_false_iff, Bool.not_not, Ax.u8eq] at hc58
                            refine AXc.skip ?_
                            refine EinBlock.n ?_
                            refine Ethen.n ?_
                            refine hK16 _ ?_
                            clear hK16 K16
                            refine AXc.region' fun K61 hK61 => ?_
                            refine AXl.qt rfl (by decide : (12:Nat) < 80) (Still.qt (s_move _)) ?_
                            refine AXl.qt rfl (by decide : (13:Nat) < 80) (Still.qt (s_iar _ _ _ _ _ rfl rfl rfl (IntWalk.i64_in _ ⟨(by first | omega | (simp only [List.length_map, List.length_cons, List.length_nil, List.length_append, List.length_take, List.length_drop]; omega)), (by first | omega | (simp only [List.length_map, List.length_cons, List.length_nil, List.length_append, List.length_take, List.length_drop]; omega))⟩))) ?_
                            refine AXl.qt rfl (by decide : (3:Nat) < 80) (Still.qt (s_assign _)) ?_
                            refine AXl.nm_g0 ?_
                            refine AXl.nil ?_
                            refine hK61 _ ?_
                            clear hK61 K61
                            refine Ethen.n ?_
                            clear hK9 K9
                            have e : errAt l k = 0 := by
                              first
                                | (have g1 := getk1 (l := l) (k := k) (by omega)
                                   simp only [errAt, getk hk, hk1, within, g1, hc6, hc15, hc22, hg28, hc29, hg35, hg38, hg41, hg44, hg47, hc50, hg55, hc58, Bool.not_true, Bool.not_false, Bool.and_eq_true, Bool.or_eq_true, Bool.not_eq_true', decide_eq_true_eq, if_true, if_false, true_or, or_true, false_or, or_false, true_and, and_true, false_and, and_false, Bool.false_eq_true, Bool.true_eq_false, reduceCtorEq, not_true, not_false, ↓reduceIte, not_false_eq_true, not_true_eq_false, or_self, and_self, ne_eq, Int.reduceEq, Int.reduceNeg])
                                | (simp only [errAt, getk hk, hk1, within, hc6, hc15, hc22, hg28, hc29, hg35, hg38, hg41, hg44, hg47, hc50, hg55, hc58, Bool.not_true, Bool.not_false, Bool.and_eq_true, Bool.or_eq_true, Bool.not_eq_true', decide_eq_true_eq, if_true, if_false, true_or, or_true, false_or, or_false, true_and, and_true, false_and, and_false, Bool.false_eq_true, Bool.true_eq_false, reduceCtorEq, not_true, not_false, ↓reduceIte, not_false_eq_true, not_true_eq_false, or_self, and_self, ne_eq, Int.reduceEq, Int.reduceNeg])
                            refine ⟨k + 1, ⟨by omega, fun j hj => ?_⟩, by omega, (by refine ⟨?_, ?_, ?_, ?_, ?_, ?_⟩ <;> (simp [subE, lk, AV.low, C.low, LB.low] <;> fail))⟩
                            rcases Nat.lt_or_eq_of_le (Nat.lt_succ_iff.1 hj) with h | h
                            · exact hinv j h
                            · subst h; exact e
        · try simp only [decide_eq_true_eq, decide_eq_false_iff_not, Bool.not_eq_true', Bool.not_eq_false', ne_eq, Decidable.not_not, bne_iff_ne, beq_iff_eq, Bool.and_eq_true, Bool.or_eq_true, Bool.and_eq_false_iff, Bool.or_eq_false_iff, Bool.not_not, Ax.u8eq] at hg28
          simp only [del, ↓reduceIte, Nat.reduceEqDiff]
          refine AXd.skip rfl ?_
          refine AXd.skip rfl ?_
          refine AXd.skip rfl ?_
          refine AXd.skip rfl ?_
          refine AXd.skip rfl ?_
          refine AXd.skip rfl ?_
          refine AXd.skip rfl ?_
          refine AXd.skip rfl ?_
          refine AXd.skip rfl ?_
          refine AXd.op rfl (Still.qt (s_pick_f _ _ _ rfl)) ?_
          refine AXd.nm_g0 ?_
          refine AXd.nil ?_
          refine AXl.nil ?_
          refine hK27 _ ?_
          clear hK27 K27
          refine Ethen.n ?_
          refine hK26 _ ?_
          clear hK26 K26
          refine AXc.cond_f rfl ?_
          refine AXc.skip ?_
          refine Ethen.n ?_
          refine hK25 _ ?_
          clear hK25 K25
          refine AXc.seq fun K62 hK62 => ?_
          refine AXc.seq fun K63 hK63 => ?_
          refine AXc.region' fun K64 hK64 => ?_
          first
            | refine AXl.qt rfl (by decide : (35:Nat) < 80) (Still.qt (s_field_loc _ _ _ fdT_29_3_g rfl)) ?_
            | refine AXl.qt rfl (by decide : (35:Nat) < 80) (Still.qt (s_field_ptr _ _ _ fdT_29_3_g rfl)) ?_
            | refine AXl.qt rfl (by decide : (35:Nat) < 80) (Still.qt (s_field_row _ _ _ fdT_29_3_g rfl rfl)) ?_
          first
            | refine AXl.qt rfl (by decide : (36:Nat) < 80) (Still.qt (s_load1 _ _ ldT_9_g rfl)) ?_
            | refine AXl.qt rfl (by decide : (36:Nat) < 80) (Still.qt (s_load1_row _ _ ldT_9_g rfl rfl (by first | rfl | exact List.getElem?_eq_getElem (by omega)) rfl)) ?_
          refine AXl.qt rfl (by decide : (37:Nat) < 80) (Still.qt (s_scmp _ _ _ _ _ rfl rfl rfl)) ?_
          refine AXl.qt rfl (by decide : (38:Nat) < 80) (Still.qt (s_move _)) ?_
          refine AXl.nm_g0 ?_
          refine AXl.split 38 _ rfl (fun hg65 => ?_) (fun hg65 => ?_)
          · try simp only [decide_eq_true_eq, decide_eq_false_iff_not, Bool.not_eq_true', Bool.not_eq_false', ne_eq, Decidable.not_not, bne_iff_ne, beq_iff_eq, Bool.and_eq_true, Bool.or_eq_true, Bool.and_eq_false_iff, Bool.or_eq_false_iff, Bool.not_not, Ax.u8eq] at hg65
            simp only [del, ↓reduceIte, Nat.reduceEqDiff]
            refine AXl.skip_guard (by decide : (39:Nat) < 80) rfl (by kernel_rfl) ?_
            refine AXl.skip_guard (by decide : (40:Nat) < 80) rfl (by kernel_rfl) ?_
            refine AXl.skip_guard (by decide : (41:Nat) < 80) rfl (by kernel_rfl) ?_
            refine AXl.skip_guard (by decide : (42:Nat) < 80) rfl (by kernel_rfl) ?_
            refine AXl.qt rfl (by decide : (43:Nat) < 80) (Still.qt (s_pick_t _ _ _ rfl)) ?_
            refine AXl.qt rfl (by decide : (44:Nat) < 80) (Still.qt (s_move _)) ?_
            refine AXl.skip_guard (by decide : (45:Nat) < 80) rfl (by kernel_rfl) ?_
            refine AXl.skip_guard (by decide : (46:Nat) < 80) rfl (by kernel_rfl) ?_
            refine AXl.skip_guard (by decide : (47:Nat) < 80) rfl (by kernel_rfl) ?_
            refine AXl.skip_guard (by decide : (48:Nat) < 80) rfl (by kernel_rfl) ?_
            refine AXl.qt rfl (by decide : (49:Nat) < 80) (Still.qt (s_pick_t _ _ _ rfl)) ?_
            refine AXl.qt rfl (by decide : (50:Nat) < 80) (Still.qt (s_move _)) ?_
            refine AXl.nm_g0 ?_
            refine AXl.skip_guard (by decide : (51:Nat) < 80) rfl (by kernel_rfl) ?_
            refine AXl.skip_guard (by decide : (52:Nat) < 80) rfl (by kernel_rfl) ?_
            refine AXl.skip_guard (by decide : (53:Nat) < 80) rfl (by kernel_rfl) ?_
            refine AXl.skip_guard (by decide : (54:Nat) < 80) rfl (by kernel_rfl) ?_
            refine AXl.qt rfl (by decide : (55:Nat) < 80) (Still.qt (s_pick_t _ _ _ rfl)) ?_
            refine AXl.qt rfl (by decide : (56:Nat) < 80) (Still.qt (s_move _)) ?_
            refine AXl.skip_guard (by decide : (57:Nat) < 80) rfl (by kernel_rfl) ?_
            refine AXl.skip_guard (by decide : (58:Nat) < 80) rfl (by kernel_rfl) ?_
            refine AXl.skip_guard (by decide : (59:Nat) < 80) rfl (by kernel_rfl) ?_
            refine AXl.skip_guard (by decide : (60:Nat) < 80) rfl (by kernel_rfl) ?_
            refine AXl.skip_guard (by decide : (61:Nat) < 80) rfl (by kernel_rfl) ?_
            refine AXl.skip_guard (by decide : (62:Nat) < 80) rfl (by kernel_rfl) ?_
            refine AXl.nm_g0 ?_
            refine AXl.qt rfl (by decide : (63:Nat) < 80) (Still.qt (s_pick_t _ _ _ rfl)) ?_
            refine AXl.qt rfl (by decide : (64:Nat) < 80) (Still.qt (s_move _)) ?_
            refine AXl.skip_guard (by decide : (65:Nat) < 80) rfl (by kernel_rfl) ?_
            refine AXl.skip_guard (by decide : (66:Nat) < 80) rfl (by kernel_rfl) ?_
            refine AXl.skip_guard (by decide : (67:Nat) < 80) rfl (by kernel_rfl) ?_
            refine AXl.skip_guard (by decide : (68:Nat) < 80) rfl (by kernel_rfl) ?_
            refine AXl.skip_guard (by decide : (69:Nat) < 80) rfl (by kernel_rfl) ?_
            refine AXl.skip_guard (by decide : (70:Nat) < 80) rfl (by kernel_rfl) ?_
            refine AXl.qt rfl (by decide : (71:Nat) < 80) (Still.qt (s_pick_t _ _ _ rfl)) ?_
            refine AXl.nm_g0 ?_
            refine AXl.nil ?_
            refine hK64 _ ?_
            clear hK64 K64
            refine Ethen.n ?_
            refine hK63 _ ?_
            clear hK63 K63
            refine AXc.cond_t rfl ?_
            refine AXc.seq fun K66 hK66 => ?_
            refine AXc.region' fun K67 hK67 => ?_
            refine AXl.qt rfl (by decide : (2:Nat) < 80) (Still.qt (s_assign _)) ?_
            refine AXl.nm_g0 ?_
            refine AXl.nil ?_
            refine hK67 _ ?_
            clear hK67 K67
            refine Ethen.n ?_
            refine hK66 _ ?_
            clear hK66 K66
            refine AXc.ret ?_
            refine Ethen.r ?_
            clear hK62 K62
            refine EinBlock.r ?_
            refine Ethen.r ?_
            clear hK16 K16
            refine Ethen.r ?_
            refine EinBlock.r ?_
            refine Ethen.r ?_
            clear hK9 K9
            refine Fin.ret rfl rfl ?_
            refine congrArg (fun x => [RV.d (.int .i64 x)]) ?_
            first
              | (unfold rightR; rw [if_pos (by omega)])
              | (rw [right_ok (by omega) (fun j hj => hinv j (by omega))])
              | (have g1 := getk1 (l := l) (k := k) (by omega)
                 refine Eq.trans ?_ (right_at (k := k) (by omega) hk hinv ?_).symm
                 · simp only [errAt, getk hk, hk1, within, g1, hc6, hc15, hc22, hg28, hg65, Bool.not_true, Bool.not_false, Bool.and_eq_true, Bool.or_eq_true, Bool.not_eq_true', decide_eq_true_eq, if_true, if_false, true_or, or_true, false_or, or_false, true_and, and_true, false_and, and_false, Bool.false_eq_true, Bool.true_eq_false, reduceCtorEq, not_true, not_false, ↓reduceIte, not_false_eq_true, not_true_eq_false, or_self, and_self, ne_eq, Int.reduceEq, Int.reduceNeg]
                 · simp only [errAt, getk hk, hk1, within, g1, hc6, hc15, hc22, hg28, hg65, Bool.not_true, Bool.not_false, Bool.and_eq_true, Bool.or_eq_true, Bool.not_eq_true', decide_eq_true_eq, if_true, if_false, true_or, or_true, false_or, or_false, true_and, and_true, false_and, and_false, Bool.false_eq_true, Bool.true_eq_false, reduceCtorEq, not_true, not_false, ↓reduceIte, not_false_eq_true, not_true_eq_false, or_self, and_self, ne_eq, Int.reduceEq, Int.reduceNeg])
              | (refine Eq.trans ?_ (right_at (k := k) (by omega) hk hinv ?_).symm
                 · simp only [errAt, getk hk, hk1, within, hc6, hc15, hc22, hg28, hg65, Bool.not_true, Bool.not_false, Bool.and_eq_true, Bool.or_eq_true, Bool.not_eq_true', decide_eq_true_eq, if_true, if_false, true_or, or_true, false_or, or_false, true_and, and_true, false_and, and_false, Bool.false_eq_true, Bool.true_eq_false, reduceCtorEq, not_true, not_false, ↓reduceIte, not_false_eq_true, not_true_eq_false, or_self, and_self, ne_eq, Int.reduceEq, Int.reduceNeg]
                 · simp only [errAt, getk hk, hk1, within, hc6, hc15, hc22, hg28, hg65, Bool.not_true, Bool.not_false, Bool.and_eq_true, Bool.or_eq_true, Bool.not_eq_true', decide_eq_true_eq, if_true, if_false, true_or, or_true, false_or, or_false, true_and, and_true, false_and, and_false, Bool.false_eq_true, Bool.true_eq_false, reduceCtorEq, not_true, not_false, ↓reduceIte, not_false_eq_true, not_true_eq_false, or_self, and_self, ne_eq, Int.reduceEq, Int.reduceNeg])
          · try simp only [decide_eq_true_eq, decide_eq_false_iff_not, Bool.not_eq_true', Bool.not_eq_false', ne_eq, Decidable.not_not, bne_iff_ne, beq_iff_eq, Bool.and_eq_true, Bool.or_eq_true, Bool.and_eq_false_iff, Bool.or_eq_false_iff, Bool.not_not, Ax.u8eq] at hg65
            simp only [del, ↓reduceIte, Nat.reduceEqDiff]
            first
              | refine AXl.qt_guard (by decide : (39:Nat) < 80) rfl (by kernel_rfl) (Still.qt (s_field_loc _ _ _ fdT_29_3_g rfl)) ?_
              | refine AXl.qt_guard (by decide : (39:Nat) < 80) rfl (by kernel_rfl) (Still.qt (s_field_ptr _ _ _ fdT_29_3_g rfl)) ?_
              | refine AXl.qt_guard (by decide : (39:Nat) < 80) rfl (by kernel_rfl) (Still.qt (s_field_row _ _ _ fdT_29_3_g rfl rfl)) ?_
            first
              | refine AXl.qt_guard (by decide : (40:Nat) < 80) rfl (by kernel_rfl) (Still.qt (s_load1 _ _ ldT_9_g rfl)) ?_
              | refine AXl.qt_guard (by decide : (40:Nat) < 80) rfl (by kernel_rfl) (Still.qt (s_load1_row _ _ ldT_9_g rfl rfl (by first | rfl | exact List.getElem?_eq_getElem (by omega)) rfl)) ?_
            refine AXl.nm_g0 ?_
            refine AXl.qt_guard (by decide : (41:Nat) < 80) rfl (by kernel_rfl) (q_call (c24 _ ?hs) (.cons (by first | exact ArgOk.d | exact ArgOk.bor rfl | exact ArgOk.agg rfl | exact ArgOk.agg (toDs_map _) | exact ArgOk.nil_bor | exact ArgOk.nil_lst | exact ArgOk.fn | exact ArgOk.ptr rfl rfl | exact ArgOk.aggn rfl (by repeat first | exact .nil | refine .cons (.refl _) ?_ | refine .cons (.nil _) ?_)) .nil)) ?_
            case hs => first | exact Nat.le_trans hokr.codes (by decide) | exact Nat.le_trans hokr.once (by decide) | exact Nat.le_trans hokr.needs (by decide)
            refine AXl.qt_guard (by decide : (42:Nat) < 80) rfl (by kernel_rfl) (Still.qt (s_not _ _ rfl)) ?_
            refine AXl.qt rfl (by decide : (43:Nat) < 80) (Still.qt (s_pick_f _ _ _ rfl)) ?_
            refine AXl.qt rfl (by decide : (44:Nat) < 80) (Still.qt (s_move _)) ?_
            refine AXl.nm_g0 ?_
            refine AXl.split 44 _ rfl (fun hg68 => ?_) (fun hg68 => ?_)
            · try simp only [decide_eq_true_eq, decide_eq_false_iff_not, Bool.not_eq_true', Bool.not_eq_false', ne_eq, Decidable.not_not, bne_iff_ne, beq_iff_eq, Bool.and_eq_true, Bool.or_eq_true, Bool.and_eq_false_iff, Bool.or_eq_false_iff, Bool.not_not, Ax.u8eq] at hg68
              simp only [del, ↓reduceIte, Nat.reduceEqDiff]
              refine AXl.skip_guard (by decide : (45:Nat) < 80) rfl (by kernel_rfl) ?_
              refine AXl.skip_guard (by decide : (46:Nat) < 80) rfl (by kernel_rfl) ?_
              refine AXl.skip_guard (by decide : (47:Nat) < 80) rfl (by kernel_rfl) ?_
              refine AXl.skip_guard (by decide : (48:Nat) < 80) rfl (by kernel_rfl) ?_
              refine AXl.qt rfl (by decide : (49:Nat) < 80) (Still.qt (s_pick_t _ _ _ rfl)) ?_
              refine AXl.qt rfl (by decide : (50:Nat) < 80) (Still.qt (s_move _)) ?_
              refine AXl.skip_guard (by decide : (51:Nat) < 80) rfl (by kernel_rfl) ?_
              refine AXl.skip_guard (by decide : (52:Nat) < 80) rfl (by kernel_rfl) ?_
              refine AXl.skip_guard (by decide : (53:Nat) < 80) rfl (by kernel_rfl) ?_
              refine AXl.skip_guard (by decide : (54:Nat) < 80) rfl (by kernel_rfl) ?_
              refine AXl.qt rfl (by decide : (55:Nat) < 80) (Still.qt (s_pick_t _ _ _ rfl)) ?_
              refine AXl.qt rfl (by decide : (56:Nat) < 80) (Still.qt (s_move _)) ?_
              refine AXl.nm_g0 ?_
              refine AXl.skip_guard (by decide : (57:Nat) < 80) rfl (by kernel_rfl) ?_
              refine AXl.skip_guard (by decide : (58:Nat) < 80) rfl (by kernel_rfl) ?_
              refine AXl.skip_guard (by decide : (59:Nat) < 80) rfl (by kernel_rfl) ?_
              refine AXl.skip_guard (by decide : (60:Nat) < 80) rfl (by kernel_rfl) ?_
              refine AXl.skip_guard (by decide : (61:Nat) < 80) rfl (by kernel_rfl) ?_
              refine AXl.skip_guard (by decide : (62:Nat) < 80) rfl (by kernel_rfl) ?_
              refine AXl.qt rfl (by decide : (63:Nat) < 80) (Still.qt (s_pick_t _ _ _ rfl)) ?_
              refine AXl.qt rfl (by decide : (64:Nat) < 80) (Still.qt (s_move _)) ?_
              refine AXl.skip_guard (by decide : (65:Nat) < 80) rfl (by kernel_rfl) ?_
              refine AXl.skip_guard (by decide : (66:Nat) < 80) rfl (by kernel_rfl) ?_
              refine AXl.skip_guard (by decide : (67:Nat) < 80) rfl (by kernel_rfl) ?_
              refine AXl.skip_guard (by decide : (68:Nat) < 80) rfl (by kernel_rfl) ?_
              refine AXl.nm_g0 ?_
              refine AXl.skip_guard (by decide : (69:Nat) < 80) rfl (by kernel_rfl) ?_
              refine AXl.skip_guard (by decide : (70:Nat) < 80) rfl (by kernel_rfl) ?_
              refine AXl.qt rfl (by decide : (71:Nat) < 80) (Still.qt (s_pick_t _ _ _ rfl)) ?_
              refine AXl.nm_g0 ?_
              refine AXl.nil ?_
              refine hK64 _ ?_
              clear hK64 K64
              refine Ethen.n ?_
              refine hK63 _ ?_
              clear hK63 K63
              refine AXc.cond_t rfl ?_
              refine AXc.seq fun K69 hK69 => ?_
              refine AXc.region' fun K70 hK70 => ?_
              refine AXl.qt rfl (by decide : (2:Nat) < 80) (Still.qt (s_assign _)) ?_
              refine AXl.nm_g0 ?_
              refine AXl.nil ?_
              refine hK70 _ ?_
              clear hK70 K70
              refine Ethen.n ?_
              refine hK69 _ ?_
              clear hK69 K69
              refine AXc.ret ?_
              refine Ethen.r ?_
              clear hK62 K62
              refine EinBlock.r ?_
              refine Ethen.r ?_
              clear hK16 K16
              refine Ethen.r ?_
              refine EinBlock.r ?_
              refine Ethen.r ?_
              clear hK9 K9
              refine Fin.ret rfl rfl ?_
              refine congrArg (fun x => [RV.d (.int .i64 x)]) ?_
              first
                | (unfold rightR; rw [if_pos (by omega)])
                | (rw [right_ok (by omega) (fun j hj => hinv j (by omega))])
                | (have g1 := getk1 (l := l) (k := k) (by omega)
                   refine Eq.trans ?_ (right_at (k := k) (by omega) hk hinv ?_).symm
                   · simp only [errAt, getk hk, hk1, within, g1, hc6, hc15, hc22, hg28, hg65, hg68, Bool.not_true, Bool.not_false, Bool.and_eq_true, Bool.or_eq_true, Bool.not_eq_true', decide_eq_true_eq, if_true, if_false, true_or, or_true, false_or, or_false, true_and, and_true, false_and, and_false, Bool.false_eq_true, Bool.true_eq_false, reduceCtorEq, not_true, not_false, ↓reduceIte, not_false_eq_true, not_true_eq_false, or_self, and_self, ne_eq, Int.reduceEq, Int.reduceNeg]
                   · simp only [errAt, getk hk, hk1, within, g1, hc6, hc15, hc22, hg28, hg65, hg68, Bool.not_true, Bool.not_false, Bool.and_eq_true, Bool.or_eq_true, Bool.not_eq_true', decide_eq_true_eq, if_true, if_false, true_or, or_true, false_or, or_false, true_and, and_true, false_and, and_false, Bool.false_eq_true, Bool.true_eq_false, reduceCtorEq, not_true, not_false, ↓reduceIte, not_false_eq_true, not_true_eq_false, or_self, and_self, ne_eq, Int.reduceEq, Int.reduceNeg])
                | (refine Eq.trans ?_ (right_at (k := k) (by omega) hk hinv ?_).symm
                   · simp only [errAt, getk hk, hk1, within, hc6, hc15, hc22, hg28, hg65, hg68, Bool.not_true, Bool.not_false, Bool.and_eq_true, Bool.or_eq_true, Bool.not_eq_true', decide_eq_true_eq, if_true, if_false, true_or, or_true, false_or, or_false, true_and, and_true, false_and, and_false, Bool.false_eq_true, Bool.true_eq_false, reduceCtorEq, not_true, not_false, ↓reduceIte, not_false_eq_true, not_true_eq_false, or_self, and_self, ne_eq, Int.reduceEq, Int.reduceNeg]
                   · simp only [errAt, getk hk, hk1, within, hc6, hc15, hc22, hg28, hg65, hg68, Bool.not_true, Bool.not_false, Bool.and_eq_true, Bool.or_eq_true, Bool.not_eq_true', decide_eq_true_eq, if_true, if_false, true_or, or_true, false_or, or_false, true_and, and_true, false_and, and_false, Bool.false_eq_true, Bool.true_eq_false, reduceCtorEq, not_true, not_false, ↓reduceIte, not_false_eq_true, not_true_eq_false, or_self, and_self, ne_eq, Int.reduceEq, Int.reduceNeg])
            · try simp only [decide_eq_true_eq, decide_eq_false_iff_not, Bool.not_eq_true', Bool.not_eq_false', ne_eq, Decidable.not_not, bne_iff_ne, beq_iff_eq, Bool.and_eq_true, Bool.or_eq_true, Bool.and_eq_false_iff, Bool.or_eq_false_iff, Bool.not_not, Ax.u8eq] at hg68
              simp only [del, ↓reduceIte, Nat.reduceEqDiff]
              first
                | refine AXl.qt_guard (by decide : (45:Nat) < 80) rfl (by kernel_rfl) (Still.qt (s_field_loc _ _ _ fdT_29_4_g rfl)) ?_
                | refine AXl.qt_guard (by decide : (45:Nat) < 80) rfl (by kernel_rfl) (Still.qt (s_field_ptr _ _ _ fdT_29_4_g rfl)) ?_
                | refine AXl.qt_guard (by decide : (45:Nat) < 80) rfl (by kernel_rfl) (Still.qt (s_field_row _ _ _ fdT_29_4_g rfl rfl)) ?_
              first
                | refine AXl.qt_guard (by decide : (46:Nat) < 80) rfl (by kernel_rfl) (Still.qt (s_load1 _ _ ldT_9_g rfl)) ?_
                | refine AXl.qt_guard (by decide : (46:Nat) < 80) rfl (by kernel_rfl) (Still.qt (s_load1_row _ _ ldT_9_g rfl rfl (by first | rfl | exact List.getElem?_eq_getElem (by omega)) rfl)) ?_
              refine AXl.nm_g0 ?_
              refine AXl.qt_guard (by decide : (47:Nat) < 80) rfl (by kernel_rfl) (q_call (c24 _ ?hs) (.cons (by first | exact ArgOk.d | exact ArgOk.bor rfl | exact ArgOk.agg rfl | exact ArgOk.agg (toDs_map _) | exact ArgOk.nil_bor | exact ArgOk.nil_lst | exact ArgOk.fn | exact ArgOk.ptr rfl rfl | exact ArgOk.aggn rfl (by repeat first | exact .nil | refine .cons (.refl _) ?_ | refine .cons (.nil _) ?_)) .nil)) ?_
              case hs => first | exact Nat.le_trans hokr.codes (by decide) | exact Nat.le_trans hokr.once (by decide) | exact Nat.le_trans hokr.needs (by decide)
              refine AXl.qt_guard (by decide : (48:Nat) < 80) rfl (by kernel_rfl) (Still.qt (s_not _ _ rfl)) ?_
              refine AXl.qt rfl (by decide : (49:Nat) < 80) (Still.qt (s_pick_f _ _ _ rfl)) ?_
              refine AXl.qt rfl (by decide : (50:Nat) < 80) (Still.qt (s_move _)) ?_
              refine AXl.nm_g0 ?_
              refine AXl.split 50 _ rfl (fun hg71 => ?_) (fun hg71 => ?_)
              · try simp only [decide_eq_true_eq, decide_eq_false_iff_not, Bool.not_eq_true', Bool.not_eq_false', ne_eq, Decidable.not_not, bne_iff_ne, beq_iff_eq, Bool.and_eq_true, Bool.or_eq_true, Bool.and_eq_false_iff, Bool.or_eq_false_iff, Bool.not_not, Ax.u8eq] at hg71
                simp only [del, ↓reduceIte, Nat.reduceEqDiff]
                refine AXl.skip_guard (by decide : (51:Nat) < 80) rfl (by kernel_rfl) ?_
                refine AXl.skip_guard (by decide : (52:Nat) < 80) rfl (by kernel_rfl) ?_
                refine AXl.skip_guard (by decide : (53:Nat) < 80) rfl (by kernel_rfl) ?_
                refine AXl.skip_guard (by decide : (54:Nat) < 80) rfl (by kernel_rfl) ?_
                refine AXl.qt rfl (by decide : (55:Nat) < 80) (Still.qt (s_pick_t _ _ _ rfl)) ?_
                refine AXl.qt rfl (by decide : (56:Nat) < 80) (Still.qt (s_move _)) ?_
                refine AXl.skip_guard (by decide : (57:Nat) < 80) rfl (by kernel_rfl) ?_
                refine AXl.skip_guard (by decide : (58:Nat) < 80) rfl (by kernel_rfl) ?_
                refine AXl.skip_guard (by decide : (59:Nat) < 80) rfl (by kernel_rfl) ?_
                refine AXl.skip_guard (by decide : (60:Nat) < 80) rfl (by kernel_rfl) ?_
                refine AXl.skip_guard (by decide : (61:Nat) < 80) rfl (by kernel_rfl) ?_
                refine AXl.skip_guard (by decide : (62:Nat) < 80) rfl (by kernel_rfl) ?_
                refine AXl.nm_g0 ?_
                refine AXl.qt rfl (by decide : (63:Nat) < 80) (Still.qt (s_pick_t _ _ _ rfl)) ?_
                refine AXl.qt rfl (by decide : (64:Nat) < 80) (Still.qt (s_move _)) ?_
                refine AXl.skip_guard (by decide : (65:Nat) < 80) rfl (by kernel_rfl) ?_
                refine AXl.skip_guard (by decide : (66:Nat) < 80) rfl (by kernel_rfl) ?_
                refine AXl.skip_guard (by decide : (67:Nat) < 80) rfl (by kernel_rfl) ?_
                refine AXl.skip_guard (by decide : (68:Nat) < 80) rfl (by kernel_rfl) ?_
                refine AXl.skip_guard (by decide : (69:Nat) < 80) rfl (by kernel_rfl) ?_
                refine AXl.skip_guard (by decide : (70:Nat) < 80) rfl (by kernel_rfl) ?_
                refine AXl.qt rfl (by decide : (71:Nat) < 80) (Still.qt (s_pick_t _ _ _ rfl)) ?_
                refine AXl.nm_g0 ?_
                refine AXl.nil ?_
                refine hK64 _ ?_
                clear hK64 K64
                refine Ethen.n ?_
                refine hK63 _ ?_
                clear hK63 K63
                refine AXc.cond_t rfl ?_
                refine AXc.seq fun K72 hK72 => ?_
                refine AXc.region' fun K73 hK73 => ?_
                refine AXl.qt rfl (by decide : (2:Nat) < 80) (Still.qt (s_assign _)) ?_
                refine AXl.nm_g0 ?_
                refine AXl.nil ?_
                refine hK73 _ ?_
                clear hK73 K73
                refine Ethen.n ?_
                refine hK72 _ ?_
                clear hK72 K72
                refine AXc.ret ?_
                refine Ethen.r ?_
                clear hK62 K62
                refine EinBlock.r ?_
                refine Ethen.r ?_
                clear hK16 K16
                refine Ethen.r ?_
                refine EinBlock.r ?_
                refine Ethen.r ?_
                clear hK9 K9
                refine Fin.ret rfl rfl ?_
                refine congrArg (fun x => [RV.d (.int .i64 x)]) ?_
                first
                  | (unfold rightR; rw [if_pos (by omega)])
                  | (rw [right_ok (by omega) (fun j hj => hinv j (by omega))])
                  | (have g1 := getk1 (l := l) (k := k) (by omega)
                     refine Eq.trans ?_ (right_at (k := k) (by omega) hk hinv ?_).symm
                     · simp only [errAt, getk hk, hk1, within, g1, hc6, hc15, hc22, hg28, hg65, hg68, hg71, Bool.not_true, Bool.not_false, Bool.and_eq_true, Bool.or_eq_true, Bool.not_eq_true', decide_eq_true_eq, if_true, if_false, true_or, or_true, false_or, or_false, true_and, and_true, false_and, and_false, Bool.false_eq_true, Bool.true_eq_false, reduceCtorEq, not_true, not_false, ↓reduceIte, not_false_eq_true, not_true_eq_false, or_self, and_self, ne_eq, Int.reduceEq, Int.reduceNeg]
                     · simp only [errAt, getk hk, hk1, within, g1, hc6, hc15, hc22, hg28, hg65, hg68, hg71, Bool.not_true, Bool.not_false, Bool.and_eq_true, Bool.or_eq_true, Bool.not_eq_true', decide_eq_true_eq, if_true, if_false, true_or, or_true, false_or, or_false, true_and, and_true, false_and, and_false, Bool.false_eq_true, Bool.true_eq_false, reduceCtorEq, not_true, not_false, ↓reduceIte, not_false_eq_true, not_true_eq_false, or_self, and_self, ne_eq, Int.reduceEq, Int.reduceNeg])
                  | (refine Eq.trans ?_ (right_at (k := k) (by omega) hk hinv ?_).symm
                     · simp only [errAt, getk hk, hk1, within, hc6, hc15, hc22, hg28, hg65, hg68, hg71, Bool.not_true, Bool.not_false, Bool.and_eq_true, Bool.or_eq_true, Bool.not_eq_true', decide_eq_true_eq, if_true, if_false, true_or, or_true, false_or, or_false, true_and, and_true, false_and, and_false, Bool.false_eq_true, Bool.true_eq_false, reduceCtorEq, not_true, not_false, ↓reduceIte, not_false_eq_true, not_true_eq_false, or_self, and_self, ne_eq, Int.reduceEq, Int.reduceNeg]
                     · simp only [errAt, getk hk, hk1, within, hc6, hc15, hc22, hg28, hg65, hg68, hg71, Bool.not_true, Bool.not_false, Bool.and_eq_true, Bool.or_eq_true, Bool.not_eq_true', decide_eq_true_eq, if_true, if_false, true_or, or_true, false_or, or_false, true_and, and_true, false_and, and_false, Bool.false_eq_true, Bool.true_eq_false, reduceCtorEq, not_true, not_false, ↓reduceIte, not_false_eq_true, not_true_eq_false, or_self, and_self, ne_eq, Int.reduceEq, Int.reduceNeg])
              · try simp only [decide_eq_true_eq, decide_eq_false_iff_not, Bool.not_eq_true', Bool.not_eq_false', ne_eq, Decidable.not_not, bne_iff_ne, beq_iff_eq, Bool.and_eq_true, Bool.or_eq_true, Bool.and_eq_false_iff, Bool.or_eq_false_iff, Bool.not_not, Ax.u8eq] at hg71
                simp only [del, ↓reduceIte, Nat.reduceEqDiff]
                first
                  | refine AXl.qt_guard (by decide : (51:Nat) < 80) rfl (by kernel_rfl) (Still.qt (s_field_loc _ _ _ fdT_29_5_g rfl)) ?_
                  | refine AXl.qt_guard (by decide : (51:Nat) < 80) rfl (by kernel_rfl) (Still.qt (s_field_ptr _ _ _ fdT_29_5_g rfl)) ?_
                  | refine AXl.qt_guard (by decide : (51:Nat) < 80) rfl (by kernel_rfl) (Still.qt (s_field_row _ _ _ fdT_29_5_g rfl rfl)) ?_
                first
                  | refine AXl.qt_guard (by decide : (52:Nat) < 80) rfl (by kernel_rfl) (Still.qt (s_load1 _ _ ldT_9_g rfl)) ?_
                  | refine AXl.qt_guard (by decide : (52:Nat) < 80) rfl (by kernel_rfl) (Still.qt (s_load1_row _ _ ldT_9_g rfl rfl (by first | rfl | exact List.getElem?_eq_getElem (by omega)) rfl)) ?_
                refine AXl.nm_g0 ?_
                refine AXl.qt_guard (by decide : (53:Nat) < 80) rfl (by kernel_rfl) (q_call (c24 _ ?hs) (.cons (by first | exact ArgOk.d | exact ArgOk.bor rfl | exact ArgOk.agg rfl | exact ArgOk.agg (toDs_map _) | exact ArgOk.nil_bor | exact ArgOk.nil_lst | exact ArgOk.fn | exact ArgOk.ptr rfl rfl | exact ArgOk.aggn rfl (by repeat first | exact .nil | refine .cons (.refl _) ?_ | refine .cons (.nil _) ?_)) .nil)) ?_
                case hs => first | exact Nat.le_trans hokr.codes (by decide) | exact Nat.le_trans hokr.once (by decide) | exact Nat.le_trans hokr.needs (by decide)
                refine AXl.qt_guard (by decide : (54:Nat) < 80) rfl (by kernel_rfl) (Still.qt (s_not _ _ rfl)) ?_
                refine AXl.qt rfl (by decide : (55:Nat) < 80) (Still.qt (s_pick_f _ _ _ rfl)) ?_
                refine AXl.qt rfl (by decide : (56:Nat) < 80) (Still.qt (s_move _)) ?_
                refine AXl.nm_g0 ?_
                refine AXl.split 56 _ rfl (fun hg74 => ?_) (fun hg74 => ?_)
                · try simp only [decide_eq_true_eq, decide_eq_false_iff_not, Bool.not_eq_true', Bool.not_eq_false', ne_eq, Decidable.not_not, bne_iff_ne, beq_iff_eq, Bool.and_eq_true, Bool.or_eq_true, Bool.and_eq_false_iff, Bool.or_eq_false_iff, Bool.not_not, Ax.u8eq] at hg74
                  simp only [del, ↓reduceIte, Nat.reduceEqDiff]
                  refine AXl.skip_guard (by decide : (57:Nat) < 80) rfl (by kernel_rfl) ?_
                  refine AXl.skip_guard (by decide : (58:Nat) < 80) rfl (by kernel_rfl) ?_
                  refine AXl.skip_guard (by decide : (59:Nat) < 80) rfl (by kernel_rfl) ?_
                  refine AXl.skip_guard (by decide : (60:Nat) < 80) rfl (by kernel_rfl) ?_
                  refine AXl.skip_guard (by decide : (61:Nat) < 80) rfl (by kernel_rfl) ?_
                  refine AXl.skip_guard (by decide : (62:Nat) < 80) rfl (by kernel_rfl) ?_
                  refine AXl.qt rfl (by decide : (63:Nat) < 80) (Still.qt (s_pick_t _ _ _ rfl)) ?_
                  refine AXl.qt rfl (by decide : (64:Nat) < 80) (Still.qt (s_move _)) ?_
                  refine AXl.skip_guard (by decide : (65:Nat) < 80) rfl (by kernel_rfl) ?_
                  refine AXl.skip_guard (by decide : (66:Nat) < 80) rfl (by kernel_rfl) ?_
                  refine AXl.skip_guard (by decide : (67:Nat) < 80) rfl (by kernel_rfl) ?_
                  refine AXl.skip_guard (by decide : (68:Nat) < 80) rfl (by kernel_rfl) ?_
                  refine AXl.nm_g0 ?_
                  refine AXl.skip_guard (by decide : (69:Nat) < 80) rfl (by kernel_rfl) ?_
                  refine AXl.skip_guard (by decide : (70:Nat) < 80) rfl (by kernel_rfl) ?_
                  refine AXl.qt rfl (by decide : (71:Nat) < 80) (Still.qt (s_pick_t _ _ _ rfl)) ?_
                  refine AXl.nm_g0 ?_
                  refine AXl.nil ?_
                  refine hK64 _ ?_
                  clear hK64 K64
                  refine Ethen.n ?_
                  refine hK63 _ ?_
                  clear hK63 K63
                  refine AXc.cond_t rfl ?_
                  refine AXc.seq fun K75 hK75 => ?_
                  refine AXc.region' fun K76 hK76 => ?_
                  refine AXl.qt rfl (by decide : (2:Nat) < 80) (Still.qt (s_assign _)) ?_
                  refine AXl.nm_g0 ?_
                  refine AXl.nil ?_
                  refine hK76 _ ?_
                  clear hK76 K76
                  refine Ethen.n ?_
                  refine hK75 _ ?_
                  clear hK75 K75
                  refine AXc.ret ?_
                  refine Ethen.r ?_
                  clear hK62 K62
                  refine EinBlock.r ?_
                  refine Ethen.r ?_
                  clear hK16 K16
                  refine Ethen.r ?_
                  refine EinBlock.r ?_
                  refine Ethen.r ?_
                  clear hK9 K9
                  refine Fin.ret rfl rfl ?_
                  refine congrArg (fun x => [RV.d (.int .i64 x)]) ?_
                  first
                    | (unfold rightR; rw [if_pos (by omega)])
                    | (rw [right_ok (by omega) (fun j hj => hinv j (by omega))])
                    | (have g1 := getk1 (l := l) (k := k) (by omega)
                       refine Eq.trans ?_ (right_at (k := k) (by omega) hk hinv ?_).symm
                       · simp only [errAt, getk hk, hk1, within, g1, hc6, hc15, hc22, hg28, hg65, hg68, hg71, hg74, Bool.not_true, Bool.not_false, Bool.and_eq_true, Bool.or_eq_true, Bool.not_eq_true', decide_eq_true_eq, if_true, if_false, true_or, or_true, false_or, or_false, true_and, and_true, false_and, and_false, Bool.false_eq_true, Bool.true_eq_false, reduceCtorEq, not_true, not_false, ↓reduceIte, not_false_eq_true, not_true_eq_false, or_self, and_self, ne_eq, Int.reduceEq, Int.reduceNeg]
                       · simp only [errAt, getk hk, hk1, within, g1, hc6, hc15, hc22, hg28, hg65, hg68, hg71, hg74, Bool.not_true, Bool.not_false, Bool.and_eq_true, Bool.or_eq_true, Bool.not_eq_true', decide_eq_true_eq, if_true, if_false, true_or, or_true, false_or, or_false, true_and, and_true, false_and, and_false, Bool.false_eq_true, Bool.true_eq_false, reduceCtorEq, not_true, not_false, ↓reduceIte, not_false_eq_true, not_true_eq_false, or_self, and_self, ne_eq, Int.reduceEq, Int.reduceNeg])
                    | (refine Eq.trans ?_ (right_at (k := k) (by omega) hk hinv ?_).symm
                       · simp only [errAt, getk hk, hk1, within, hc6, hc15, hc22, hg28, hg65, hg68, hg71, hg74, Bool.not_true, Bool.not_false, Bool.and_eq_true, Bool.or_eq_true, Bool.not_eq_true', decide_eq_true_eq, if_true, if_false, true_or, or_true, false_or, or_false, true_and, and_true, false_and, and_false, Bool.false_eq_true, Bool.true_eq_false, reduceCtorEq, not_true, not_false, ↓reduceIte, not_false_eq_true, not_true_eq_false, or_self, and_self, ne_eq, Int.reduceEq, Int.reduceNeg]
                       · simp only [errAt, getk hk, hk1, within, hc6, hc15, hc22, hg28, hg65, hg68, hg71, hg74, Bool.not_true, Bool.not_false, Bool.and_eq_true, Bool.or_eq_true, Bool.not_eq_true', decide_eq_true_eq, if_true, if_false, true_or, or_true, false_or, or_false, true_and, and_true, false_and, and_false, Bool.false_eq_true, Bool.true_eq_false, reduceCtorEq, not_true, not_false, ↓reduceIte, not_false_eq_true, not_true_eq_false, or_self, and_self, ne_eq, Int.reduceEq, Int.reduceNeg])
                · try simp only [decide_eq_true_eq, decide_eq_false_iff_not, Bool.not_eq_true', Bool.not_eq_false', ne_eq, Decidable.not_not, bne_iff_ne, beq_iff_eq, Bool.and_eq_true, Bool.or_eq_true, Bool.and_eq_false_iff, Bool.or_eq_false_iff, Bool.not_not, Ax.u8eq] at hg74
                  simp only [del, ↓reduceIte, Nat.reduceEqDiff]
                  first
                    | refine AXl.qt_guard (by decide : (57:Nat) < 80) rfl (by kernel_rfl) (Still.qt (s_field_loc _ _ _ fdT_29_3_g rfl)) ?_
                    | refine AXl.qt_guard (by decide : (57:Nat) < 80) rfl (by kernel_rfl) (Still.qt (s_field_ptr _ _ _ fdT_29_3_g rfl)) ?_
                    | refine AXl.qt_guard (by decide : (57:Nat) < 80) rfl (by kernel_rfl) (Still.qt (s_field_row _ _ _ fdT_29_3_g rfl rfl)) ?_
                  first
                    | refine AXl.qt_guard (by decide : (58:Nat) < 80) rfl (by kernel_rfl) (Still.qt (s_load1 _ _ ldT_9_g rfl)) ?_
                    | refine AXl.qt_guard (by decide : (58:Nat) < 80) rfl (by kernel_rfl) (Still.qt (s_load1_row _ _ ldT_9_g rfl rfl (by first | rfl | exact List.getElem?_eq_getElem (by omega)) rfl)) ?_
                  first
                    | refine AXl.qt_guard (by decide : (59:Nat) < 80) rfl (by kernel_rfl) (Still.qt (s_field_loc _ _ _ fdT_29_4_g rfl)) ?_
                    | refine AXl.qt_guard (by decide : (59:Nat) < 80) rfl (by kernel_rfl) (Still.qt (s_field_ptr _ _ _ fdT_29_4_g rfl)) ?_
                    | refine AXl.qt_guard (by decide : (59:Nat) < 80) rfl (by kernel_rfl) (Still.qt (s_field_row _ _ _ fdT_29_4_g rfl rfl)) ?_
                  first
                    | refine AXl.qt_guard (by decide : (60:Nat) < 80) rfl (by kernel_rfl) (Still.qt (s_load1 _ _ ldT_9_g rfl)) ?_
                    | refine AXl.qt_guard (by decide : (60:Nat) < 80) rfl (by kernel_rfl) (Still.qt (s_load1_row _ _ ldT_9_g rfl rfl (by first | rfl | exact List.getElem?_eq_getElem (by omega)) rfl)) ?_
                  refine AXl.nm_g0 ?_
                  refine AXl.qt_guard (by decide : (61:Nat) < 80) rfl (by kernel_rfl) (q_call (c25 _ _ ?hs ?ht) (.cons (by first | exact ArgOk.d | exact ArgOk.bor rfl | exact ArgOk.agg rfl | exact ArgOk.agg (toDs_map _) | exact ArgOk.nil_bor | exact ArgOk.nil_lst | exact ArgOk.fn | exact ArgOk.ptr rfl rfl | exact ArgOk.aggn rfl (by repeat first | exact .nil | refine .cons (.refl _) ?_ | refine .cons (.nil _) ?_)) (.cons (by first | exact ArgOk.d | exact ArgOk.bor rfl | exact ArgOk.agg rfl | exact ArgOk.agg (toDs_map _) | exact ArgOk.nil_bor | exact ArgOk.nil_lst | exact ArgOk.fn | exact ArgOk.ptr rfl rfl | exact ArgOk.aggn rfl (by repeat first | exact .nil | refine .cons (.refl _) ?_ | refine .cons (.nil _) ?_)) .nil))) ?_
                  case hs => exact Nat.le_trans hokr.codes (by decide)
                  case ht => first | exact Nat.le_trans hokr.once (by decide) | exact Nat.le_trans hokr.needs (by decide)
                  refine AXl.qt_guard (by decide : (62:Nat) < 80) rfl (by kernel_rfl) (Still.qt (s_not _ _ rfl)) ?_
                  refine AXl.qt rfl (by decide : (63:Nat) < 80) (Still.qt (s_pick_f _ _ _ rfl)) ?_
                  refine AXl.qt rfl (by decide : (64:Nat) < 80) (Still.qt (s_move _)) ?_
                  refine AXl.nm_g0 ?_
                  refine AXl.split 64 _ rfl (fun hg77 => ?_) (fun hg77 => ?_)
                  · try simp only [decide_eq_true_eq, decide_eq_false_iff_not, Bool.not_eq_true', Bool.not_eq_false', ne_eq, Decidable.not_not, bne_iff_ne, beq_iff_eq, Bool.and_eq_true, Bool.or_eq_true, Bool.and_eq_false_iff, Bool.or_eq_false_iff, Bool.not_not, Ax.u8eq] at hg77
                    simp only [del, ↓reduceIte, Nat.reduceEqDiff]
                    refine AXl.skip_guard (by decide : (65:Nat) < 80) rfl (by kernel_rfl) ?_
                    refine AXl.skip_guard (by decide : (66:Nat) < 80) rfl (by kernel_rfl) ?_
                    refine AXl.skip_guard (by decide : (67:Nat) < 80) rfl (by kernel_rfl) ?_
                    refine AXl.skip_guard (by decide : (68:Nat) < 80) rfl (by kernel_rfl) ?_
                    refine AXl.skip_guard (by decide : (69:Nat) < 80) rfl (by kernel_rfl) ?_
                    refine AXl.skip_guard (by decide : (70:Nat) < 80) rfl (by kernel_rfl) ?_
                    refine AXl.qt rfl (by decide : (71:Nat) < 80) (Still.qt (s_pick_t _ _ _ rfl)) ?_
                    refine AXl.nm_g0 ?_
                    refine AXl.nil ?_
                    refine hK64 _ ?_
                    clear hK64 K64
                    refine Ethen.n ?_
                    refine hK63 _ ?_
                    clear hK63 K63
                    refine AXc.cond_t rfl ?_
                    refine AXc.seq fun K78 hK78 => ?_
                    refine AXc.region' fun K79 hK79 => ?_
                    refine AXl.qt rfl (by decide : (2:Nat) < 80) (Still.qt (s_assign _)) ?_
                    refine AXl.nm_g0 ?_
                    refine AXl.nil ?_
                    refine hK79 _ ?_
                    clear hK79 K79
                    refine Ethen.n ?_
                    refine hK78 _ ?_
                    clear hK78 K78
                    refine AXc.ret ?_
                    refine Ethen.r ?_
                    clear hK62 K62
                    refine EinBlock.r ?_
                    refine Ethen.r ?_
                    clear hK16 K16
                    refine Ethen.r ?_
                    refine EinBlock.r ?_
                    refine Ethen.r ?_
                    clear hK9 K9
                    refine Fin.ret rfl rfl ?_
                    refine congrArg (fun x => [RV.d (.int .i64 x)]) ?_
                    first
                      | (unfold rightR; rw [if_pos (by omega)])
                      | (rw [right_ok (by omega) (fun j hj => hinv j (by omega))])
                      | (have g1 := getk1 (l := l) (k := k) (by omega)
                         refine Eq.trans ?_ (right_at (k := k) (by omega) hk hinv ?_).symm
                         · simp only [errAt, getk hk, hk1, within, g1, hc6, hc15, hc22, hg28, hg65, hg68, hg71, hg74, hg77, Bool.not_true, Bool.not_false, Bool.and_eq_true, Bool.or_eq_true, Bool.not_eq_true', decide_eq_true_eq, if_true, if_false, true_or, or_true, false_or, or_false, true_and, and_true, false_and, and_false, Bool.false_eq_true, Bool.true_eq_false, reduceCtorEq, not_true, not_false, ↓reduceIte, not_false_eq_true, not_true_eq_false, or_self, and_self, ne_eq, Int.reduceEq, Int.reduceNeg]
                         · simp only [errAt, getk hk, hk1, within, g1, hc6, hc15, hc22, hg28, hg65, hg68, hg71, hg74, hg77, Bool.not_true, Bool.not_false, Bool.and_eq_true, Bool.or_eq_true, Bool.not_eq_true', decide_eq_true_eq, if_true, if_false, true_or, or_true, false_or, or_false, true_and, and_true, false_and, and_false, Bool.false_eq_true, Bool.true_eq_false, reduceCtorEq, not_true, not_false, ↓reduceIte, not_false_eq_true, not_true_eq_false, or_self, and_self, ne_eq, Int.reduceEq, Int.reduceNeg])
                      | (refine Eq.trans ?_ (right_at (k := k) (by omega) hk hinv ?_).symm
                         · simp only [errAt, getk hk, hk1, within, hc6, hc15, hc22, hg28, hg65, hg68, hg71, hg74, hg77, Bool.not_true, Bool.not_false, Bool.and_eq_true, Bool.or_eq_true, Bool.not_eq_true', decide_eq_true_eq, if_true, if_false, true_or, or_true, false_or, or_false, true_and, and_true, false_and, and_false, Bool.false_eq_true, Bool.true_eq_false, reduceCtorEq, not_true, not_false, ↓reduceIte, not_false_eq_true, not_true_eq_false, or_self, and_self, ne_eq, Int.reduceEq, Int.reduceNeg]
                         · simp only [errAt, getk hk, hk1, within, hc6, hc15, hc22, hg28, hg65, hg68, hg71, hg74, hg77, Bool.not_true, Bool.not_false, Bool.and_eq_true, Bool.or_eq_true, Bool.not_eq_true', decide_eq_true_eq, if_true, if_false, true_or, or_true, false_or, or_false, true_and, and_true, false_and, and_false, Bool.false_eq_true, Bool.true_eq_false, reduceCtorEq, not_true, not_false, ↓reduceIte, not_false_eq_true, not_true_eq_false, or_self, and_self, ne_eq, Int.reduceEq, Int.reduceNeg])
                  · try simp only [decide_eq_true_eq, decide_eq_false_iff_not, Bool.not_eq_true', Bool.not_eq_false', ne_eq, Decidable.not_not, bne_iff_ne, beq_iff_eq, Bool.and_eq_true, Bool.or_eq_true, Bool.and_eq_false_iff, Bool.or_eq_false_iff, Bool.not_not, Ax.u8eq] at hg77
                    simp only [del, ↓reduceIte, Nat.reduceEqDiff]
                    first
                      | refine AXl.qt_guard (by decide : (65:Nat) < 80) rfl (by kernel_rfl) (Still.qt (s_field_loc _ _ _ fdT_29_3_g rfl)) ?_
                      | refine AXl.qt_guard (by decide : (65:Nat) < 80) rfl (by kernel_rfl) (Still.qt (s_field_ptr _ _ _ fdT_29_3_g rfl)) ?_
                      | refine AXl.qt_guard (by decide : (65:Nat) < 80) rfl (by kernel_rfl) (Still.qt (s_field_row _ _ _ fdT_29_3_g rfl rfl)) ?_
                    first
                      | refine AXl.qt_guard (by decide : (66:Nat) < 80) rfl (by kernel_rfl) (Still.qt (s_load1 _ _ ldT_9_g rfl)) ?_
                      | refine AXl.qt_guard (by decide : (66:Nat) < 80) rfl (by kernel_rfl) (Still.qt (s_load1_row _ _ ldT_9_g rfl rfl (by first | rfl | exact List.getElem?_eq_getElem (by omega)) rfl)) ?_
                    first
                      | refine AXl.qt_guard (by decide : (67:Nat) < 80) rfl (by kernel_rfl) (Still.qt (s_field_loc _ _ _ fdT_29_5_g rfl)) ?_
                      | refine AXl.qt_guard (by decide : (67:Nat) < 80) rfl (by kernel_rfl) (Still.qt (s_field_ptr _ _ _ fdT_29_5_g rfl)) ?_
                      | refine AXl.qt_guard (by decide : (67:Nat) < 80) rfl (by kernel_rfl) (Still.qt (s_field_row _ _ _ fdT_29_5_g rfl rfl)) ?_
                    first
                      | refine AXl.qt_guard (by decide : (68:Nat) < 80) rfl (by kernel_rfl) (Still.qt (s_load1 _ _ ldT_9_g rfl)) ?_
                      | refine AXl.qt_guard (by decide : (68:Nat) < 80) rfl (by kernel_rfl) (Still.qt (s_load1_row _ _ ldT_9_g rfl rfl (by first | rfl | exact List.getElem?_eq_getElem (by omega)) rfl)) ?_
                    refine AXl.nm_g0 ?_
                    refine AXl.qt_guard (by decide : (69:Nat) < 80) rfl (by kernel_rfl) (q_call (c25 _ _ ?hs ?ht) (.cons (by first | exact ArgOk.d | exact ArgOk.bor rfl | exact ArgOk.agg rfl | exact ArgOk.agg (toDs_map _) | exact ArgOk.nil_bor | exact ArgOk.nil_lst | exact ArgOk.fn | exact ArgOk.ptr rfl rfl | exact ArgOk.aggn rfl (by repeat first | exact .nil | refine .cons (.refl _) ?_ | refine .cons (.nil _) ?_)) (.cons (by first | exact ArgOk.d | exact ArgOk.bor rfl | exact ArgOk.agg rfl | exact ArgOk.agg (toDs_map _) | exact ArgOk.nil_bor | exact ArgOk.nil_lst | exact ArgOk.fn | exact ArgOk.ptr rfl rfl | exact ArgOk.aggn rfl (by repeat first | exact .nil | refine .cons (.refl _) ?_ | refine .cons (.nil _) ?_)) .nil))) ?_
                    case hs => exact Nat.le_trans hokr.codes (by decide)
                    case ht => first | exact Nat.le_trans hokr.once (by decide) | exact Nat.le_trans hokr.needs (by decide)
                    refine AXl.qt_guard (by decide : (70:Nat) < 80) rfl (by kernel_rfl) (Still.qt (s_not _ _ rfl)) ?_
                    refine AXl.qt rfl (by decide : (71:Nat) < 80) (Still.qt (s_pick_f _ _ _ rfl)) ?_
                    refine AXl.nm_g0 ?_
                    refine AXl.nil ?_
                    refine hK64 _ ?_
                    clear hK64 K64
                    refine Ethen.n ?_
                    refine hK63 _ ?_
                    clear hK63 K63
                    refine AXc.cond rfl (fun hc80 => ?_) (fun hc80 => ?_)
                    · try simp only [decide_eq_true_eq, decide_eq_false_iff_not, Bool.not_eq_true', Bool.not_eq_false', ne_eq, Decidable.not_not, bne_iff_ne, beq_iff_eq, Bool.and_eq_true, Bool.or_eq_true, Bool.and_eq_false_iff, Bool.or_eq_false_iff, Bool.not_not, Ax.u8eq] at hc80
                      refine AXc.seq fun K81 hK81 => ?_
                      refine AXc.region' fun K82 hK82 => ?_
                      refine AXl.qt rfl (by decide : (2:Nat) < 80) (Still.qt (s_assign _)) ?_
                      refine AXl.nm_g0 ?_
                      refine AXl.nil ?_
                      refine hK82 _ ?_
                      clear hK82 K82
                      refine Ethen.n ?_
                      refine hK81 _ ?_
                      clear hK81 K81
                      refine AXc.ret ?_
                      refine Ethen.r ?_
                      clear hK62 K62
                      refine EinBlock.r ?_
                      refine Ethen.r ?_
                      clear hK16 K16
                      refine Ethen.r ?_
                      refine EinBlock.r ?_
                      refine Ethen.r ?_
                      clear hK9 K9
                      refine Fin.ret rfl rfl ?_
                      refine congrArg (fun x => [RV.d (.int .i64 x)]) ?_
                      first
                        | (unfold rightR; rw [if_pos (by omega)])
                        | (rw [right_ok (by omega) (fun j hj => hinv j (by omega))])
                        | (have g1 := getk1 (l := l) (k := k) (by omega)
                           refine Eq.trans ?_ (right_at (k := k) (by omega) hk hinv ?_).symm
                           · simp only [errAt, getk hk, hk1, within, g1, hc6, hc15, hc22, hg28, hg65, hg68, hg71, hg74, hg77, hc80, Bool.not_true, Bool.not_false, Bool.and_eq_true, Bool.or_eq_true, Bool.not_eq_true', decide_eq_true_eq, if_true, if_false, true_or, or_true, false_or, or_false, true_and, and_true, false_and, and_false, Bool.false_eq_true, Bool.true_eq_false, reduceCtorEq, not_true, not_false, ↓reduceIte, not_false_eq_true, not_true_eq_false, or_self, and_self, ne_eq, Int.reduceEq, Int.reduceNeg]
                           · simp only [errAt, getk hk, hk1, within, g1, hc6, hc15, hc22, hg28, hg65, hg68, hg71, hg74, hg77, hc80, Bool.not_true, Bool.not_false, Bool.and_eq_true, Bool.or_eq_true, Bool.not_eq_true', decide_eq_true_eq, if_true, if_false, true_or, or_true, false_or, or_false, true_and, and_true, false_and, and_false, Bool.false_eq_true, Bool.true_eq_false, reduceCtorEq, not_true, not_false, ↓reduceIte, not_false_eq_true, not_true_eq_false, or_self, and_self, ne_eq, Int.reduceEq, Int.reduceNeg])
                        | (refine Eq.trans ?_ (right_at (k := k) (by omega) hk hinv ?_).symm
                           · simp only [errAt, getk hk, hk1, within, hc6, hc15, hc22, hg28, hg65, hg68, hg71, hg74, hg77, hc80, Bool.not_true, Bool.not_false, Bool.and_eq_true, Bool.or_eq_true, Bool.not_eq_true', decide_eq_true_eq, if_true, if_false, true_or, or_true, false_or, or_false, true_and, and_true, false_and, and_false, Bool.false_eq_true, Bool.true_eq_false, reduceCtorEq, not_true, not_false, ↓reduceIte, not_false_eq_true, not_true_eq_false, or_self, and_self, ne_eq, Int.reduceEq, Int.reduceNeg]
                           · simp only [errAt, getk hk, hk1, within, hc6, hc15, hc22, hg28, hg65, hg68, hg71, hg74, hg77, hc80, Bool.not_true, Bool.not_false, Bool.and_eq_true, Bool.or_eq_true, Bool.not_eq_true', decide_eq_true_eq, if_true, if_false, true_or, or_true, false_or, or_false, true_and, and_true, false_and, and_false, Bool.false_eq_true, Bool.true_eq_false, reduceCtorEq, not_true, not_false, ↓reduceIte, not_false_eq_true, not_true_eq_false, or_self, and_self, ne_eq, Int.reduceEq, Int.reduceNeg])
                    · try simp only [decide_eq_true_eq, decide_eq_false_iff_not, Bool.not_eq_true', Bool.not_eq_false', ne_eq, Decidable.not_not, bne_iff_ne, beq_iff_eq, Bool.and_eq_true, Bool.or_eq_true, Bool.and_eq_false_iff, Bool.or_eq_false_iff, Bool.not_not, Ax.u8eq] at hc80
                      refine AXc.skip ?_
                      refine Ethen.n ?_
                      refine hK62 _ ?_
                      clear hK62 K62
                      refine AXc.seq fun K83 hK83 => ?_
                      refine AXc.region' fun K84 hK84 => ?_
                      first
                        | refine AXl.qt rfl (by decide : (72:Nat) < 80) (Still.qt (s_field_loc _ _ _ fdT_29_6_g rfl)) ?_
                        | refine AXl.qt rfl (by decide : (72:Nat) < 80) (Still.qt (s_field_ptr _ _ _ fdT_29_6_g rfl)) ?_
                        | refine AXl.qt rfl (by decide : (72:Nat) < 80) (Still.qt (s_field_row _ _ _ fdT_29_6_g rfl rfl)) ?_
                      first
                        | refine AXl.qt rfl (by decide : (73:Nat) < 80) (Still.qt (s_load1 _ _ ldT_3_g rfl)) ?_
                        | refine AXl.qt rfl (by decide : (73:Nat) < 80) (Still.qt (s_load1_row _ _ ldT_3_g rfl rfl (by first | rfl | exact List.getElem?_eq_getElem (by omega)) rfl)) ?_
                      refine AXl.qt rfl (by decide : (74:Nat) < 80) (Still.qt (s_icmp _ _ _ _ _ rfl rfl rfl)) ?_
                      refine AXl.qt rfl (by decide : (75:Nat) < 80) (Still.qt (s_move _)) ?_
                      refine AXl.nm_g0 ?_
                      refine AXl.split 75 _ rfl (fun hg85 => ?_) (fun hg85 => ?_)
                      · try simp only [decide_eq_true_eq, decide_eq_false_iff_not, Bool.not_eq_true', Bool.not_eq_false', ne_eq, Decidable.not_not, bne_iff_ne, beq_iff_eq, Bool.and_eq_true, Bool.or_eq_true, Bool.and_eq_false_iff, Bool.or_eq_false_iff, Bool.not_not, Ax.u8eq] at hg85
                        simp only [del, ↓reduceIte, Nat.reduceEqDiff]
                        refine AXl.skip_guard (by decide : (76:Nat) < 80) rfl (by kernel_rfl) ?_
                        refine AXl.skip_guard (by decide : (77:Nat) < 80) rfl (by kernel_rfl) ?_
                        refine AXl.skip_guard (by decide : (78:Nat) < 80) rfl (by kernel_rfl) ?_
                        refine AXl.qt rfl (by decide : (79:Nat) < 80) (Still.qt (s_pick_t _ _ _ rfl)) ?_
                        refine AXl.nm_g0 ?_
                        refine AXl.nil ?_
                        refine hK84 _ ?_
                        clear hK84 K84
                        refine Ethen.n ?_
                        refine hK83 _ ?_
                        clear hK83 K83
                        refine AXc.cond_t rfl ?_
                        refine AXc.seq fun K86 hK86 => ?_
                        refine AXc.region' fun K87 hK87 => ?_
                        refine AXl.qt rfl (by decide : (2:Nat) < 80) (Still.qt (s_assign _)) ?_
                        refine AXl.nm_g0 ?_
                        refine AXl.nil ?_
                        refine hK87 _ ?_
                        clear hK87 K87
                        refine Ethen.n ?_
                        refine hK86 _ ?_
                        clear hK86 K86
                        refine AXc.ret ?_
                        refine EinBlock.r ?_
                        refine Ethen.r ?_
                        clear hK16 K16
                        refine Ethen.r ?_
                        refine EinBlock.r ?_
                        refine Ethen.r ?_
                        clear hK9 K9
                        refine Fin.ret rfl rfl ?_
                        refine congrArg (fun x => [RV.d (.int .i64 x)]) ?_
                        first
                          | (unfold rightR; rw [if_pos (by omega)])
                          | (rw [right_ok (by omega) (fun j hj => hinv j (by omega))])
                          | (have g1 := getk1 (l := l) (k := k) (by omega)
                             refine Eq.trans ?_ (right_at (k := k) (by omega) hk hinv ?_).symm
                             · simp only [errAt, getk hk, hk1, within, g1, hc6, hc15, hc22, hg28, hg65, hg68, hg71, hg74, hg77, hc80, hg85, Bool.not_true, Bool.not_false, Bool.and_eq_true, Bool.or_eq_true, Bool.not_eq_true', decide_eq_true_eq, if_true, if_false, true_or, or_true, false_or, or_false, true_and, and_true, false_and, and_false, Bool.false_eq_true, Bool.true_eq_false, reduceCtorEq, not_true, not_false, ↓reduceIte, not_false_eq_true, not_true_eq_false, or_self, and_self, ne_eq, Int.reduceEq, Int.reduceNeg]
                             · simp only [errAt, getk hk, hk1, within, g1, hc6, hc15, hc22, hg28, hg65, hg68, hg71, hg74, hg77, hc80, hg85, Bool.not_true, Bool.not_false, Bool.and_eq_true, Bool.or_eq_true, Bool.not_eq_true', decide_eq_true_eq, if_true, if_false, true_or, or_true, false_or, or_false, true_and, and_true, false_and, and_false, Bool.false_eq_true, Bool.true_eq_false, reduceCtorEq, not_true, not_false, ↓reduceIte, not_false_eq_true, not_true_eq_false, or_self, and_self, ne_eq, Int.reduceEq, Int.reduceNeg])
                          | (refine Eq.trans ?_ (right_at (k := k) (by omega) hk hinv ?_).symm
                             · simp only [errAt, getk hk, hk1, within, hc6, hc15, hc22, hg28, hg65, hg68, hg71, hg74, hg77, hc80, hg85, Bool.not_true, Bool.not_false, Bool.and_eq_true, Bool.or_eq_true, Bool.not_eq_true', decide_eq_true_eq, if_true, if_false, true_or, or_true, false_or, or_false, true_and, and_true, false_and, and_false, Bool.false_eq_true, Bool.true_eq_false, reduceCtorEq, not_true, not_false, ↓reduceIte, not_false_eq_true, not_true_eq_false, or_self, and_self, ne_eq, Int.reduceEq, Int.reduceNeg]
                             · simp only [errAt, getk hk, hk1, within, hc6, hc15, hc22, hg28, hg65, hg68, hg71, hg74, hg77, hc80, hg85, Bool.not_true, Bool.not_false, Bool.and_eq_true, Bool.or_eq_true, Bool.not_eq_true', decide_eq_true_eq, if_true, if_false, true_or, or_true, false_or, or_false, true_and, and_true, false_and, and_false, Bool.false_eq_true, Bool.true_eq_false, reduceCtorEq, not_true, not_false, ↓reduceIte, not_false_eq_true, not_true_eq_false, or_self, and_self, ne_eq, Int.reduceEq, Int.reduceNeg])
                      · try simp only [decide_eq_true_eq, decide_eq_false_iff_not, Bool.not_eq_true', Bool.not_eq_false', ne_eq, Decidable.not_not, bne_iff_ne, beq_iff_eq, Bool.and_eq_true, Bool.or_eq_true, Bool.and_eq_false_iff, Bool.or_eq_false_iff, Bool.not_not, Ax.u8eq] at hg85
                        simp only [del, ↓reduceIte, Nat.reduceEqDiff]
                        first
                          | refine AXl.qt_guard (by decide : (76:Nat) < 80) rfl (by kernel_rfl) (Still.qt (s_field_loc _ _ _ fdT_29_6_g rfl)) ?_
                          | refine AXl.qt_guard (by decide : (76:Nat) < 80) rfl (by kernel_rfl) (Still.qt (s_field_ptr _ _ _ fdT_29_6_g rfl)) ?_
                          | refine AXl.qt_guard (by decide : (76:Nat) < 80) rfl (by kernel_rfl) (Still.qt (s_field_row _ _ _ fdT_29_6_g rfl rfl)) ?_
                        first
                          | refine AXl.qt_guard (by decide : (77:Nat) < 80) rfl (by kernel_rfl) (Still.qt (s_load1 _ _ ldT_3_g rfl)) ?_
                          | refine AXl.qt_guard (by decide : (77:Nat) < 80) rfl (by kernel_rfl) (Still.qt (s_load1_row _ _ ldT_3_g rfl rfl (by first | rfl | exact List.getElem?_eq_getElem (by omega)) rfl)) ?_
                        refine AXl.qt_guard (by decide : (78:Nat) < 80) rfl (by kernel_rfl) (Still.qt (s_icmp _ _ _ _ _ rfl rfl rfl)) ?_
                        refine AXl.qt rfl (by decide : (79:Nat) < 80) (Still.qt (s_pick_f _ _ _ rfl)) ?_
                        refine AXl.nm_g0 ?_
                        refine AXl.nil ?_
                        refine hK84 _ ?_
                        clear hK84 K84
                        refine Ethen.n ?_
                        refine hK83 _ ?_
                        clear hK83 K83
                        refine AXc.cond rfl (fun hc88 => ?_) (fun hc88 => ?_)
                        · try simp only [decide_eq_true_eq, decide_eq_false_iff_not, Bool.not_eq_true', Bool.not_eq_false', ne_eq, Decidable.not_not, bne_iff_ne, beq_iff_eq, Bool.and_eq_true, Bool.or_eq_true, Bool.and_eq_false_iff, Bool.or_eq_false_iff, Bool.not_not, Ax.u8eq] at hc88
                          refine AXc.seq fun K89 hK89 => ?_
                          refine AXc.region' fun K90 hK90 => ?_
                          refine AXl.qt rfl (by decide : (2:Nat) < 80) (Still.qt (s_assign _)) ?_
                          refine AXl.nm_g0 ?_
                          refine AXl.nil ?_
                          refine hK90 _ ?_
                          clear hK90 K90
                          refine Ethen.n ?_
                          refine hK89 _ ?_
                          clear hK89 K89
                          refine AXc.ret ?_
                          refine EinBlock.r ?_
                          refine Ethen.r ?_
                          clear hK16 K16
                          refine Ethen.r ?_
                          refine EinBlock.r ?_
                          refine Ethen.r ?_
                          clear hK9 K9
                          refine Fin.ret rfl rfl ?_
                          refine congrArg (fun x => [RV.d (.int .i64 x)]) ?_
                          first
                            | (unfold rightR; rw [if_pos (by omega)])
                            | (rw [right_ok (by omega) (fun j hj => hinv j (by omega))])
                            | (have g1 := getk1 (l := l) (k := k) (by omega)
                               refine Eq.trans ?_ (right_at (k := k) (by omega) hk hinv ?_).symm
                               · simp only [errAt, getk hk, hk1, within, g1, hc6, hc15, hc22, hg28, hg65, hg68, hg71, hg74, hg77, hc80, hg85, hc88, Bool.not_true, Bool.not_false, Bool.and_eq_true, Bool.or_eq_true, Bool.not_eq_true', decide_eq_true_eq, if_true, if_false, true_or, or_true, false_or, or_false, true_and, and_true, false_and, and_false, Bool.false_eq_true, Bool.true_eq_false, reduceCtorEq, not_true, not_false, ↓reduceIte, not_false_eq_true, not_true_eq_false, or_self, and_self, ne_eq, Int.reduceEq, Int.reduceNeg]
                               · simp only [errAt, getk hk, hk1, within, g1, hc6, hc15, hc22, hg28, hg65, hg68, hg71, hg74, hg77, hc80, hg85, hc88, Bool.not_true, Bool.not_false, Bool.and_eq_true, Bool.or_eq_true, Bool.not_eq_true', decide_eq_true_eq, if_true, if_false, true_or, or_true, false_or, or_false, true_and, and_true, false_and, and_false, Bool.false_eq_true, Bool.true_eq_false, reduceCtorEq, not_true, not_false, ↓reduceIte, not_false_eq_true, not_true_eq_false, or_self, and_self, ne_eq, Int.reduceEq, Int.reduceNeg])
                            | (refine Eq.trans ?_ (right_at (k := k) (by omega) hk hinv ?_).symm
                               · simp only [errAt, getk hk, hk1, within, hc6, hc15, hc22, hg28, hg65, hg68, hg71, hg74, hg77, hc80, hg85, hc88, Bool.not_true, Bool.not_false, Bool.and_eq_true, Bool.or_eq_true, Bool.not_eq_true', decide_eq_true_eq, if_true, if_false, true_or, or_true, false_or, or_false, true_and, and_true, false_and, and_false, Bool.false_eq_true, Bool.true_eq_false, reduceCtorEq, not_true, not_false, ↓reduceIte, not_false_eq_true, not_true_eq_false, or_self, and_self, ne_eq, Int.reduceEq, Int.reduceNeg]
                               · simp only [errAt, getk hk, hk1, within, hc6, hc15, hc22, hg28, hg65, hg68, hg71, hg74, hg77, hc80, hg85, hc88, Bool.not_true, Bool.not_false, Bool.and_eq_true, Bool.or_eq_true, Bool.not_eq_true', decide_eq_true_eq, if_true, if_false, true_or, or_true, false_or, or_false, true_and, and_true, false_and, and_false, Bool.false_eq_true, Bool.true_eq_false, reduceCtorEq, not_true, not_false, ↓reduceIte, not_false_eq_true, not_true_eq_false, or_self, and_self, ne_eq, Int.reduceEq, Int.reduceNeg])
                        · try simp only [decide_eq_true_eq, decide_eq_false_iff_not, Bool.not_eq_true', Bool.not_eq_false', ne_eq, Decidable.not_not, bne_iff_ne, beq_iff_eq, Bool.and_eq_true, Bool.or_eq_true, Bool.and_eq_false_iff, Bool.or_eq_false_iff, Bool.not_not, Ax.u8eq] at hc88
                          refine AXc.skip ?_
                          refine EinBlock.n ?_
                          refine Ethen.n ?_
                          refine hK16 _ ?_
                          clear hK16 K16
                          refine AXc.region' fun K91 hK91 => ?_
                          refine AXl.qt rfl (by decide : (12:Nat) < 80) (Still.qt (s_move _)) ?_
                          refine AXl.qt rfl (by decide : (13:Nat) < 80) (Still.qt (s_iar _ _ _ _ _ rfl rfl rfl (IntWalk.i64_in _ ⟨(by first | omega | (simp only [List.length_map, List.length_cons, List.length_nil, List.length_append, List.length_take, List.length_drop]; omega)), (by first | omega | (simp only [List.length_map, List.length_cons, List.length_nil, List.length_append, List.length_take, List.length_drop]; omega))⟩))) ?_
                          refine AXl.qt rfl (by decide : (3:Nat) < 80) (Still.qt (s_assign _)) ?_
                          refine AXl.nm_g0 ?_
                          refine AXl.nil ?_
                          refine hK91 _ ?_
                          clear hK91 K91
                          refine Ethen.n ?_
                          clear hK9 K9
                          have e : errAt l k = 0 := by
                            first
                              | (have g1 := getk1 (l := l) (k := k) (by omega)
                                 simp only [errAt, getk hk, hk1, within, g1, hc6, hc15, hc22, hg28, hg65, hg68, hg71, hg74, hg77, hc80, hg85, hc88, Bool.not_true, Bool.not_false, Bool.and_eq_true, Bool.or_eq_true, Bool.not_eq_true', decide_eq_true_eq, if_true, if_false, true_or, or_true, false_or, or_false, true_and, and_true, false_and, and_false, Bool.false_eq_true, Bool.true_eq_false, reduceCtorEq, not_true, not_false, ↓reduceIte, not_false_eq_true, not_true_eq_false, or_self, and_self, ne_eq, Int.reduceEq, Int.reduceNeg])
                              | (simp only [errAt, getk hk, hk1, within, hc6, hc15, hc22, hg28, hg65, hg68, hg71, hg74, hg77, hc80, hg85, hc88, Bool.not_true, Bool.not_false, Bool.and_eq_true, Bool.or_eq_true, Bool.not_eq_true', decide_eq_true_eq, if_true, if_false, true_or, or_true, false_or, or_false, true_and, and_true, false_and, and_false, Bool.false_eq_true, Bool.true_eq_false, reduceCtorEq, not_true, not_false, ↓reduceIte, not_false_eq_true, not_true_eq_false, or_self, and_self, ne_eq, Int.reduceEq, Int.reduceNeg])
                          refine ⟨k + 1, ⟨by omega, fun j hj => ?_⟩, by omega, (by refine ⟨?_, ?_, ?_, ?_, ?_, ?_⟩ <;> (simp [subE, lk, AV.low, C.low, LB.low] <;> fail))⟩
                          rcases Nat.lt_or_eq_of_le (Nat.lt_succ_iff.1 hj) with h | h
                          · exact hinv j h
                          · subst h; exact e
    · try simp only [decide_eq_true_eq, decide_eq_false_iff_not, Bool.not_eq_true', Bool.not_eq_false', ne_eq, Decidable.not_not, bne_iff_ne, beq_iff_eq, Bool.and_eq_true, Bool.or_eq_true, Bool.and_eq_false_iff, Bool.or_eq_false_iff, Bool.not_not, Ax.u8eq] at hc15
      refine AXc.exit ?_
      refine Ethen.e ?_
      clear hK12 K12
      refine Ethen.e ?_
      refine EinBlock.hit ?_
      refine Ethen.n ?_
      refine hK9 _ ?_
      clear hK9 K9
      refine AXc.seq fun K92 hK92 => ?_
      refine AXc.region' fun K93 hK93 => ?_
      refine AXl.qt rfl (by decide : (2:Nat) < 80) (Still.qt (s_assign _)) ?_
      refine AXl.nm_g0 ?_
      refine AXl.nil ?_
      refine hK93 _ ?_
      clear hK93 K93
      refine Ethen.n ?_
      refine hK92 _ ?_
      clear hK92 K92
      refine AXc.ret ?_
      refine Fin.ret rfl rfl ?_
      refine congrArg (fun x => [RV.d (.int .i64 x)]) ?_
      first
        | (unfold rightR; rw [if_pos (by omega)])
        | (rw [right_ok (by omega) (fun j hj => hinv j (by omega))])
        | (have g1 := getk1 (l := l) (k := k) (by omega)
           refine Eq.trans ?_ (right_at (k := k) (by omega) hk hinv ?_).symm
           · simp only [errAt, getk hk, hk1, within, g1, hc6, hc15, Bool.not_true, Bool.not_false, Bool.and_eq_true, Bool.or_eq_true, Bool.not_eq_true', decide_eq_true_eq, if_true, if_false, true_or, or_true, false_or, or_false, true_and, and_true, false_and, and_false, Bool.false_eq_true, Bool.true_eq_false, reduceCtorEq, not_true, not_false, ↓reduceIte, not_false_eq_true, not_true_eq_false, or_self, and_self, ne_eq, Int.reduceEq, Int.reduceNeg]
           · simp only [errAt, getk hk, hk1, within, g1, hc6, hc15, Bool.not_true, Bool.not_false, Bool.and_eq_true, Bool.or_eq_true, Bool.not_eq_true', decide_eq_true_eq, if_true, if_false, true_or, or_true, false_or, or_false, true_and, and_true, false_and, and_false, Bool.false_eq_true, Bool.true_eq_false, reduceCtorEq, not_true, not_false, ↓reduceIte, not_false_eq_true, not_true_eq_false, or_self, and_self, ne_eq, Int.reduceEq, Int.reduceNeg])
        | (refine Eq.trans ?_ (right_at (k := k) (by omega) hk hinv ?_).symm
           · simp only [errAt, getk hk, hk1, within, hc6, hc15, Bool.not_true, Bool.not_false, Bool.and_eq_true, Bool.or_eq_true, Bool.not_eq_true', decide_eq_true_eq, if_true, if_false, true_or, or_true, false_or, or_false, true_and, and_true, false_and, and_false, Bool.false_eq_true, Bool.true_eq_false, reduceCtorEq, not_true, not_false, ↓reduceIte, not_false_eq_true, not_true_eq_false, or_self, and_self, ne_eq, Int.reduceEq, Int.reduceNeg]
           · simp only [errAt, getk hk, hk1, within, hc6, hc15, Bool.not_true, Bool.not_false, Bool.and_eq_true, Bool.or_eq_true, Bool.not_eq_true', decide_eq_true_eq, if_true, if_false, true_or, or_true, false_or, or_false, true_and, and_true, false_and, and_false, Bool.false_eq_true, Bool.true_eq_false, reduceCtorEq, not_true, not_false, ↓reduceIte, not_false_eq_true, not_true_eq_false, or_self, and_self, ne_eq, Int.reduceEq, Int.reduceNeg])
end Go.Proofs
