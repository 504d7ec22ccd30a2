/- Part of a proof about this program; no condition of its own. -/
import Derived.Test.YtjaooadhjmlhnaaDoorRWh
import Derived.Test.YtjaooadhjmlhnaaDoorProg
set_option linter.all false
namespace Go.Proofs
open Go Go.Ax Go.Rl
theorem plT_27_j : plT Tryd.prog 27 = some [(0, 1), (1, 1), (2, 1), (3, 1), (4, 1)] := by kernel_rfl
theorem zC_27_j : zeroC Tryd.prog 27 = some [.d (.int .i64 0), .d (.int .i64 0), .d (.int .i64 0), .d (.str []), .d (.raw (.slice none 0 0))] := by kernel_rfl
theorem zC_29_j : zeroC Tryd.prog 29 = some [.d (.str []), .d (.bool false), .d (.bool false), .d (.str []), .d (.str []), .d (.str []), .d (.int .i64 0)] := by kernel_rfl
theorem sz_29_j : (Tryd.prog.info? 29).map (·.size) = some 7 := by kernel_rfl
theorem ldT_29_j : ldT Tryd.prog 29 = some (some 7) := by kernel_rfl
theorem eqT_29_j : EqT Tryd.prog 29 [2, 1, 1, 2, 2, 2, 0] := ⟨by kernel_rfl, by kernel_rfl, by kernel_rfl, by kernel_rfl⟩
theorem ldT_27_j : ldT Tryd.prog 27 = some (some 5) := by kernel_rfl
theorem mixed_j : Tryd.prog.follows .mixedOrders = true := by kernel_rfl
theorem apT_35_j : apT Tryd.prog 35 = some (41, 4, 40) := by kernel_rfl
theorem slT_22_j : slT Tryd.prog 22 = some (29, 7) := by kernel_rfl
theorem fdT_29_2_j : fdT Tryd.prog 29 2 = some 2 := by kernel_rfl
theorem ldT_4_j : ldT Tryd.prog 4 = some none := by kernel_rfl
theorem fdT_29_0_j : fdT Tryd.prog 29 0 = some 0 := by kernel_rfl
theorem ldT_9_j : ldT Tryd.prog 9 = some none := by kernel_rfl
theorem plT_41_j : plT Tryd.prog 41 = some [(0, 1), (1, 1), (2, 1), (3, 1)] := by kernel_rfl
theorem zC_41_j : zeroC Tryd.prog 41 = some [.d (.int .i64 0), .d (.int .i64 0), .d (.str []), .d (.int .u8 0)] := by kernel_rfl
theorem fdT_27_4_j : fdT Tryd.prog 27 4 = some 4 := by kernel_rfl
theorem ldT_25_j : ldT Tryd.prog 25 = some none := by kernel_rfl
theorem sz_27_j : (Tryd.prog.info? 27).map (·.size) = some 5 := by kernel_rfl
theorem slT_25_j : slT Tryd.prog 25 = some (45, 4) := by kernel_rfl
theorem ldT_45_j : ldT Tryd.prog 45 = some (some 4) := by kernel_rfl
theorem apT_25_j : apT Tryd.prog 25 = some (45, 4, 64) := by kernel_rfl
theorem sz_25_j : (Tryd.prog.info? 25).map (·.size) = some 1 := by kernel_rfl
theorem AXl.nm_j0 {P : Program} {pm : Pm} {ops : Array Oper} {rest : List Oper} {st st' : St} {K : St → Prop} (hk : AXl P pm ops rest st' K) (he : st = st' := by first | (simp only [St.put, putE, U, del, lk, ev, cAV, lkG, rsAV, rvAV, ↓reduceIte, Nat.reduceEqDiff, Nat.reduceAdd, Nat.reduceMul, List.length_map, List.length_cons, List.length_nil, List.getElem_map, Int.toNat_natCast, List.cons_append, List.nil_append, List.set_cons_zero, List.set_cons_succ, splice, List.take_succ_cons, List.take_zero, List.drop_succ_cons, List.drop_zero, Nat.zero_add, Nat.add_zero, List.map_cons, List.map_nil, List.take_nil, List.drop_nil, List.append_nil, Problem.ds, TagRule.ds, Fld.ds, Sub.ds, Rec.ds, eq_self, decide_true, beq_self_eq_true, Bool.not_true, Bool.not_false]; done) | (simp only [St.put, putE, U, del, lk, ev, cAV, lkG, rsAV, rvAV, ↓reduceIte, Nat.reduceEqDiff, Nat.reduceAdd, Nat.reduceMul, List.length_map, List.length_cons, List.length_nil, List.getElem_map, Int.toNat_natCast, List.cons_append, List.nil_append, List.set_cons_zero, List.set_cons_succ, splice, List.take_succ_cons, List.take_zero, List.drop_succ_cons, List.drop_zero, Nat.zero_add, Nat.add_zero, List.map_cons, List.map_nil, List.take_nil, List.drop_nil, List.append_nil, Problem.ds, TagRule.ds, Fld.ds, Sub.ds, Rec.ds, eq_self, decide_true, beq_self_eq_true, Bool.not_true, Bool.not_false]; rfl) | rfl) : AXl P pm ops rest st K := he ▸ hk
theorem AXd.nm_j0 {P : Program} {pm : Pm} {h : List LB} {ops : Array Oper} {pre : List Oper} {ρ ρ' : List (Nat × AV)} {Kd : List (Nat × AV) → Prop} (hk : AXd P pm h ops pre ρ' Kd) (he : ρ = ρ' := by first | (simp only [St.put, putE, U, del, lk, ev, cAV, lkG, rsAV, rvAV, ↓reduceIte, Nat.reduceEqDiff, Nat.reduceAdd, Nat.reduceMul, List.length_map, List.length_cons, List.length_nil, List.getElem_map, Int.toNat_natCast, List.cons_append, List.nil_append, List.set_cons_zero, List.set_cons_succ, splice, List.take_succ_cons, List.take_zero, List.drop_succ_cons, List.drop_zero, Nat.zero_add, Nat.add_zero, List.map_cons, List.map_nil, List.take_nil, List.drop_nil, List.append_nil, Problem.ds, TagRule.ds, Fld.ds, Sub.ds, Rec.ds, eq_self, decide_true, beq_self_eq_true, Bool.not_true, Bool.not_false]; done) | (simp only [St.put, putE, U, del, lk, ev, cAV, lkG, rsAV, rvAV, ↓reduceIte, Nat.reduceEqDiff, Nat.reduceAdd, Nat.reduceMul, List.length_map, List.length_cons, List.length_nil, List.getElem_map, Int.toNat_natCast, List.cons_append, List.nil_append, List.set_cons_zero, List.set_cons_succ, splice, List.take_succ_cons, List.take_zero, List.drop_succ_cons, List.drop_zero, Nat.zero_add, Nat.add_zero, List.map_cons, List.map_nil, List.take_nil, List.drop_nil, List.append_nil, Problem.ds, TagRule.ds, Fld.ds, Sub.ds, Rec.ds, eq_self, decide_true, beq_self_eq_true, Bool.not_true, Bool.not_false]; rfl) | rfl) : AXd P pm h ops pre ρ Kd := he ▸ hk
set_option maxHeartbeats 1600000 in
/-- The contract of library librarylaw09.RulesFind. -/
theorem c3 (l : List TagRule) (t : Str) : AFn Tryd.prog [(0, (stdL.map TagRule.ds).flatten)] 3 [.c (.d (.lst 7 (l.map TagRule.ds))), .c (.d (.str t))] [.d (.bool true)] := by
  refine AFn.of_body0 (n := 35) (res := [.tmp 4]) Tryd.func3 (by kernel_rfl) rfl Tryd.ntmps3 (by rw [Tryd.results3]) (by simp) ?_
  simp only [envOf, Nat.reduceAdd]
  refine AXc.seq fun K1 hK1 => ?_
  refine AXc.region' fun K2 hK2 => ?_
  refine AXl.qt rfl (by decide : (4:Nat) < 35) (Still.qt (s_assign _)) ?_
  refine AXl.nm_j0 ?_
  refine AXl.nil ?_
  refine hK2 _ ?_
  clear hK2 K2
  refine Ethen.n ?_
  refine hK1 _ ?_
  clear hK1 K1
  refine AXc.seq fun K3 hK3 => ?_
  refine AXc.seq fun K4 hK4 => ?_
  refine AXc.region' fun K5 hK5 => ?_
  refine AXl.qt rfl (by decide : (9:Nat) < 35) (q_call c8 .nil) ?_
  refine AXl.nm_j0 ?_
  refine AXl.qt rfl (by decide : (10:Nat) < 35) (Still.qt (s_not _ _ rfl)) ?_
  refine AXl.nm_j0 ?_
  refine AXl.nil ?_
  refine hK5 _ ?_
  clear hK5 K5
  refine Ethen.n ?_
  refine hK4 _ ?_
  clear hK4 K4
  refine AXc.cond_f rfl ?_
  refine AXc.skip ?_
  refine Ethen.n ?_
  refine hK3 _ ?_
  clear hK3 K3
  refine AXc.seq fun K6 hK6 => ?_
  refine AXc.seq fun K7 hK7 => ?_
  refine AXc.region' fun K8 hK8 => ?_
  refine AXl.qt rfl (by decide : (11:Nat) < 35) (Still.qt (s_move _)) ?_
  refine AXl.qt rfl (by decide : (12:Nat) < 35) (Still.qt (s_build _ _ plT_27_j zC_27_j rfl)) ?_
  refine AXl.nm_j0 ?_
  refine AXl.qt rfl (by decide : (13:Nat) < 35) (q_call (c9 l emptyR) (.cons (by first | exact ArgOk.d | exact ArgOk.bor rfl | exact ArgOk.agg rfl | exact ArgOk.agg (toDs_map _) | exact ArgOk.nil_bor | exact ArgOk.nil_lst | exact ArgOk.fn | exact ArgOk.ptr rfl rfl | exact ArgOk.aggn rfl (by repeat first | exact .nil | refine .cons (.refl _) ?_ | refine .cons (.nil _) ?_)) (.cons (by first | exact ArgOk.d | exact ArgOk.bor rfl | exact ArgOk.agg rfl | exact ArgOk.agg (toDs_map _) | exact ArgOk.nil_bor | exact ArgOk.nil_lst | exact ArgOk.fn | exact ArgOk.ptr rfl rfl | exact ArgOk.aggn rfl (by repeat first | exact .nil | refine .cons (.refl _) ?_ | refine .cons (.nil _) ?_)) .nil))) ?_
  refine AXl.qt rfl (by decide : (14:Nat) < 35) (Still.qt (s_not _ _ rfl)) ?_
  refine AXl.nm_j0 ?_
  refine AXl.nil ?_
  refine hK8 _ ?_
  clear hK8 K8
  refine Ethen.n ?_
  refine hK7 _ ?_
  clear hK7 K7
  refine AXc.cond rfl (fun hc9 => ?_) (fun hc9 => ?_)
  · try simp only [decide_eq_true_eq, decide_eq_false_iff_not, Bool.not_eq_true', Bool.not_eq_false', Int.not_lt, Int.not_le, ne_eq, Decidable.not_not, bne_iff_ne, beq_iff_eq, Bool.and_eq_true, Bool.or_eq_true, Bool.and_eq_false_iff, Bool.or_eq_false_iff, Bool.not_not, Ax.u8eq] at hc9
    refine AXc.seq fun K10 hK10 => ?_
    refine AXc.region' fun K11 hK11 => ?_
    refine AXl.qt rfl (by decide : (4:Nat) < 35) (Still.qt (s_assign _)) ?_
    refine AXl.nm_j0 ?_
    refine AXl.nil ?_
    refine hK11 _ ?_
    clear hK11 K11
    refine Ethen.n ?_
    refine hK10 _ ?_
    clear hK10 K10
    refine AXc.ret ?_
    refine Ethen.r ?_
    clear hK6 K6
    refine Fin.ret rfl rfl ?_
    rfl
  · try simp only [decide_eq_true_eq, decide_eq_false_iff_not, Bool.not_eq_true', Bool.not_eq_false', Int.not_lt, Int.not_le, ne_eq, Decidable.not_not, bne_iff_ne, beq_iff_eq, Bool.and_eq_true, Bool.or_eq_true, Bool.and_eq_false_iff, Bool.or_eq_false_iff, Bool.not_not, Ax.u8eq] at hc9
    refine AXc.skip ?_
    refine Ethen.n ?_
    refine hK6 _ ?_
    clear hK6 K6
    refine AXc.seq fun K12 hK12 => ?_
    refine AXc.region' fun K13 hK13 => ?_
    refine AXl.qt rfl (by decide : (16:Nat) < 35) (Still.qt (s_move _)) ?_
    refine AXl.qt rfl (by decide : (17:Nat) < 35) (Still.qt (s_move _)) ?_
    refine AXl.nm_j0 ?_
    refine AXl.qt rfl (by decide : (18:Nat) < 35) (q_call (c10 l t ?hs) (.cons (by first | exact ArgOk.d | exact ArgOk.bor rfl | exact ArgOk.agg rfl | exact ArgOk.agg (toDs_map _) | exact ArgOk.nil_bor | exact ArgOk.nil_lst | exact ArgOk.fn | exact ArgOk.ptr rfl rfl | exact ArgOk.aggn rfl (by repeat first | exact .nil | refine .cons (.refl _) ?_ | refine .cons (.nil _) ?_)) (.cons (by first | exact ArgOk.d | exact ArgOk.bor rfl | exact ArgOk.agg rfl | exact ArgOk.agg (toDs_map _) | exact ArgOk.nil_bor | exact ArgOk.nil_lst | exact ArgOk.fn | exact ArgOk.ptr rfl rfl | exact ArgOk.aggn rfl (by repeat first | exact .nil | refine .cons (.refl _) ?_ | refine .cons (.nil _) ?_)) .nil))) ?_
    case hs => exact Nat.le_trans (okL_of ‹smallB l emptyR.fields = true›).len (by decide)
    refine AXl.qt rfl (by decide : (15:Nat) < 35) (Still.qt (s_move _)) ?_
    refine AXl.qt rfl (by decide : (19:Nat) < 35) (Still.qt (s_extract _ _ rfl rfl (by intro us h; cases h))) ?_
    refine AXl.qt rfl (by decide : (20:Nat) < 35) (Still.qt (s_extract _ _ rfl rfl (by intro us h; cases h))) ?_
    refine AXl.alloc zC_29_j (by decide : (5:Nat) < 35) ?_
    refine AXl.nm_j0 ?_
    first
      | refine AXl.store rfl rfl rfl sz_29_j (by simp [Problem.ds, TagRule.ds, Fld.ds, Sub.ds, Rec.ds]) rfl ?_
      | refine AXl.store_row rfl rfl (by first | rfl | exact List.getElem?_eq_getElem (by omega)) rfl sz_29_j (by simp [Problem.ds, TagRule.ds, Fld.ds, Sub.ds, Rec.ds]) rfl ?_
    refine AXl.qt rfl (by decide : (6:Nat) < 35) (Still.qt (s_assign _)) ?_
    refine AXl.nm_j0 ?_
    refine AXl.nil ?_
    refine hK13 _ ?_
    clear hK13 K13
    refine Ethen.n ?_
    refine hK12 _ ?_
    clear hK12 K12
    refine AXc.seq fun K14 hK14 => ?_
    refine AXc.region' fun K15 hK15 => ?_
    refine AXl.qt rfl (by decide : (22:Nat) < 35) (Still.qt (s_move _)) ?_
    refine AXl.qt rfl (by decide : (23:Nat) < 35) (Still.qt (s_move _)) ?_
    refine AXl.nm_j0 ?_
    refine AXl.qt rfl (by decide : (24:Nat) < 35) (q_call (c11 l t ?hs) (.cons (by first | exact ArgOk.d | exact ArgOk.bor rfl | exact ArgOk.agg rfl | exact ArgOk.agg (toDs_map _) | exact ArgOk.nil_bor | exact ArgOk.nil_lst | exact ArgOk.fn | exact ArgOk.ptr rfl rfl | exact ArgOk.aggn rfl (by repeat first | exact .nil | refine .cons (.refl _) ?_ | refine .cons (.nil _) ?_)) (.cons (by first | exact ArgOk.d | exact ArgOk.bor rfl | exact ArgOk.agg rfl | exact ArgOk.agg (toDs_map _) | exact ArgOk.nil_bor | exact ArgOk.nil_lst | exact ArgOk.fn | exact ArgOk.ptr rfl rfl | exact ArgOk.aggn rfl (by repeat first | exact .nil | refine .cons (.refl _) ?_ | refine .cons (.nil _) ?_)) .nil))) ?_
    case hs => exact Nat.le_trans (okL_of ‹smallB l emptyR.fields = true›).len (by decide)
    refine AXl.qt rfl (by decide : (21:Nat) < 35) (Still.qt (s_move _)) ?_
    refine AXl.qt rfl (by decide : (25:Nat) < 35) (Still.qt (s_extract _ _ rfl rfl (by intro us h; cases h))) ?_
    refine AXl.qt rfl (by decide : (26:Nat) < 35) (Still.qt (s_extract _ _ rfl rfl (by intro us h; cases h))) ?_
    refine AXl.alloc zC_29_j (by decide : (7:Nat) < 35) ?_
    refine AXl.nm_j0 ?_
    first
      | refine AXl.store rfl rfl rfl sz_29_j (by simp [Problem.ds, TagRule.ds, Fld.ds, Sub.ds, Rec.ds]) rfl ?_
      | refine AXl.store_row rfl rfl (by first | rfl | exact List.getElem?_eq_getElem (by omega)) rfl sz_29_j (by simp [Problem.ds, TagRule.ds, Fld.ds, Sub.ds, Rec.ds]) rfl ?_
    refine AXl.qt rfl (by decide : (8:Nat) < 35) (Still.qt (s_assign _)) ?_
    refine AXl.nm_j0 ?_
    refine AXl.nil ?_
    refine hK15 _ ?_
    clear hK15 K15
    refine Ethen.n ?_
    refine hK14 _ ?_
    clear hK14 K14
    refine AXc.seq fun K16 hK16 => ?_
    refine AXc.region' fun K17 hK17 => ?_
    first
      | refine AXl.qt rfl (by decide : (27:Nat) < 35) (Still.qt (s_loadN _ _ ldT_29_j rfl (by simp [Problem.ds, TagRule.ds, Fld.ds, Sub.ds, Rec.ds]))) ?_
      | refine AXl.qt rfl (by decide : (27:Nat) < 35) (Still.qt (s_loadN_row _ _ ldT_29_j rfl rfl (by first | rfl | exact List.getElem?_eq_getElem (by omega)) (by simp [Problem.ds, TagRule.ds, Fld.ds, Sub.ds, Rec.ds]))) ?_
    refine AXl.nm_j0 ?_
    first
      | refine AXl.qt rfl (by decide : (28:Nat) < 35) (Still.qt (s_loadN _ _ ldT_29_j rfl (by simp [Problem.ds, TagRule.ds, Fld.ds, Sub.ds, Rec.ds]))) ?_
      | refine AXl.qt rfl (by decide : (28:Nat) < 35) (Still.qt (s_loadN_row _ _ ldT_29_j rfl rfl (by first | rfl | exact List.getElem?_eq_getElem (by omega)) (by simp [Problem.ds, TagRule.ds, Fld.ds, Sub.ds, Rec.ds]))) ?_
    refine AXl.qt rfl (by decide : (29:Nat) < 35) (Still.qt (s_struct' _ _ _ _ _ eqT_29_j rfl rfl (by first | rfl | exact toDs_map _) (by first | rfl | exact toDs_map _) rfl (eqR _ _) rfl)) ?_
    refine AXl.nm_j0 ?_
    refine AXl.qt rfl (by decide : (30:Nat) < 35) (Still.qt (s_move _)) ?_
    refine AXl.qt_guard (by decide : (31:Nat) < 35) rfl (by kernel_rfl) (Still.qt (s_move _)) ?_
    refine AXl.qt_guard (by decide : (32:Nat) < 35) rfl (by kernel_rfl) (Still.qt (s_move _)) ?_
    refine AXl.qt_guard (by decide : (33:Nat) < 35) rfl (by kernel_rfl) (Still.qt (s_bcmp _ _ _ _ _ Tryd.underlying4 rfl rfl rfl)) ?_
    refine AXl.nm_j0 ?_
    refine AXl.qt rfl (by decide : (34:Nat) < 35) (Still.qt (s_pick_t _ _ _ rfl)) ?_
    refine AXl.qt rfl (by decide : (4:Nat) < 35) (Still.qt (s_assign _)) ?_
    refine AXl.nm_j0 ?_
    refine AXl.nil ?_
    refine hK17 _ ?_
    clear hK17 K17
    refine Ethen.n ?_
    refine hK16 _ ?_
    clear hK16 K16
    refine AXc.ret ?_
    refine Fin.ret rfl rfl ?_
    rfl
set_option maxHeartbeats 1600000 in
/-- The contract of library librarylaw09.RulesChecks. -/
theorem c4 (l : List TagRule) (r : Rec) : AFn Tryd.prog [(0, (stdL.map TagRule.ds).flatten)] 4 [.c (.d (.lst 7 (l.map TagRule.ds))), .agg (r.ds.map C.d)] [.d (.bool true)] := by
  refine AFn.of_body0 (n := 34) (res := [.tmp 4]) Tryd.func4 (by kernel_rfl) rfl Tryd.ntmps4 (by rw [Tryd.results4]) (by simp) ?_
  simp only [envOf, Nat.reduceAdd]
  refine AXc.seq fun K1 hK1 => ?_
  refine AXc.region' fun K2 hK2 => ?_
  refine AXl.box rfl (by decide : (3:Nat) < 34) ?_
  refine AXl.qt rfl (by decide : (4:Nat) < 34) (Still.qt (s_assign _)) ?_
  refine AXl.nm_j0 ?_
  refine AXl.nil ?_
  refine hK2 _ ?_
  clear hK2 K2
  refine Ethen.n ?_
  refine hK1 _ ?_
  clear hK1 K1
  refine AXc.seq fun K3 hK3 => ?_
  refine AXc.seq fun K4 hK4 => ?_
  refine AXc.region' fun K5 hK5 => ?_
  refine AXl.qt rfl (by decide : (6:Nat) < 34) (q_call c8 .nil) ?_
  refine AXl.nm_j0 ?_
  refine AXl.qt rfl (by decide : (7:Nat) < 34) (Still.qt (s_not _ _ rfl)) ?_
  refine AXl.nm_j0 ?_
  refine AXl.nil ?_
  refine hK5 _ ?_
  clear hK5 K5
  refine Ethen.n ?_
  refine hK4 _ ?_
  clear hK4 K4
  refine AXc.cond_f rfl ?_
  refine AXc.skip ?_
  refine Ethen.n ?_
  refine hK3 _ ?_
  clear hK3 K3
  refine AXc.seq fun K6 hK6 => ?_
  refine AXc.seq fun K7 hK7 => ?_
  refine AXc.region' fun K8 hK8 => ?_
  refine AXl.qt rfl (by decide : (8:Nat) < 34) (Still.qt (s_move _)) ?_
  refine AXl.nm_j0 ?_
  first
    | refine AXl.qt rfl (by decide : (9:Nat) < 34) (Still.qt (s_loadN _ _ ldT_27_j rfl (by simp [Problem.ds, TagRule.ds, Fld.ds, Sub.ds, Rec.ds]))) ?_
    | refine AXl.qt rfl (by decide : (9:Nat) < 34) (Still.qt (s_loadN_row _ _ ldT_27_j rfl rfl (by first | rfl | exact List.getElem?_eq_getElem (by omega)) (by simp [Problem.ds, TagRule.ds, Fld.ds, Sub.ds, Rec.ds]))) ?_
  refine AXl.nm_j0 ?_
  refine AXl.qt rfl (by decide : (10:Nat) < 34) (q_call (c9 l r) (.cons (by first | exact ArgOk.d | exact ArgOk.bor rfl | exact ArgOk.agg rfl | exact ArgOk.agg (toDs_map _) | exact ArgOk.nil_bor | exact ArgOk.nil_lst | exact ArgOk.fn | exact ArgOk.ptr rfl rfl | exact ArgOk.aggn rfl (by repeat first | exact .nil | refine .cons (.refl _) ?_ | refine .cons (.nil _) ?_)) (.cons (by first | exact ArgOk.d | exact ArgOk.bor rfl | exact ArgOk.agg rfl | exact ArgOk.agg (toDs_map _) | exact ArgOk.nil_bor | exact ArgOk.nil_lst | exact ArgOk.fn | exact ArgOk.ptr rfl rfl | exact ArgOk.aggn rfl (by repeat first | exact .nil | refine .cons (.refl _) ?_ | refine .cons (.nil _) ?_)) .nil))) ?_
  refine AXl.qt rfl (by decide : (11:Nat) < 34) (Still.qt (s_not _ _ rfl)) ?_
  refine AXl.qt rfl (by decide : (12:Nat) < 34) (Still.qt (s_move _)) ?_
  refine AXl.nm_j0 ?_
  refine AXl.split 12 _ rfl (fun hg9 => ?_) (fun hg9 => ?_)
  · try simp only [decide_eq_true_eq, decide_eq_false_iff_not, Bool.not_eq_true', Bool.not_eq_false', Int.not_lt, Int.not_le, ne_eq, Decidable.not_not, bne_iff_ne, beq_iff_eq, Bool.and_eq_true, Bool.or_eq_true, Bool.and_eq_false_iff, Bool.or_eq_false_iff, Bool.not_not, Ax.u8eq] at hg9
    simp only [del, ↓reduceIte, Nat.reduceEqDiff]
    refine AXl.skip_guard (by decide : (13:Nat) < 34) rfl (by kernel_rfl) ?_
    refine AXl.skip_guard (by decide : (14:Nat) < 34) rfl (by kernel_rfl) ?_
    refine AXl.skip_guard (by decide : (15:Nat) < 34) rfl (by kernel_rfl) ?_
    refine AXl.qt rfl (by decide : (16:Nat) < 34) (Still.qt (s_pick_t _ _ _ rfl)) ?_
    refine AXl.nm_j0 ?_
    refine AXl.nil ?_
    refine hK8 _ ?_
    clear hK8 K8
    refine Ethen.n ?_
    refine hK7 _ ?_
    clear hK7 K7
    refine AXc.cond_t rfl ?_
    refine AXc.seq fun K10 hK10 => ?_
    refine AXc.region' fun K11 hK11 => ?_
    refine AXl.qt rfl (by decide : (4:Nat) < 34) (Still.qt (s_assign _)) ?_
    refine AXl.nm_j0 ?_
    refine AXl.nil ?_
    refine hK11 _ ?_
    clear hK11 K11
    refine Ethen.n ?_
    refine hK10 _ ?_
    clear hK10 K10
    refine AXc.ret ?_
    refine Ethen.r ?_
    clear hK6 K6
    refine Fin.ret rfl rfl ?_
    first
      | rfl
      | (by_cases h : chkP l r.fields = [] <;> simp [h])
  · try simp only [decide_eq_true_eq, decide_eq_false_iff_not, Bool.not_eq_true', Bool.not_eq_false', Int.not_lt, Int.not_le, ne_eq, Decidable.not_not, bne_iff_ne, beq_iff_eq, Bool.and_eq_true, Bool.or_eq_true, Bool.and_eq_false_iff, Bool.or_eq_false_iff, Bool.not_not, Ax.u8eq] at hg9
    simp only [del, ↓reduceIte, Nat.reduceEqDiff]
    refine AXl.qt_guard (by decide : (13:Nat) < 34) rfl (by kernel_rfl) (Still.qt (s_move _)) ?_
    refine AXl.nm_j0 ?_
    refine AXl.qt_guard (by decide : (14:Nat) < 34) rfl (by kernel_rfl) (q_call (c12 l (okL_of ‹smallB l r.fields = true›)) (.cons (by first | exact ArgOk.d | exact ArgOk.bor rfl | exact ArgOk.agg rfl | exact ArgOk.agg (toDs_map _) | exact ArgOk.nil_bor | exact ArgOk.nil_lst | exact ArgOk.fn | exact ArgOk.ptr rfl rfl | exact ArgOk.aggn rfl (by repeat first | exact .nil | refine .cons (.refl _) ?_ | refine .cons (.nil _) ?_)) .nil)) ?_
    refine AXl.qt_guard (by decide : (15:Nat) < 34) rfl (by kernel_rfl) (Still.qt (s_icmp _ _ _ _ _ rfl rfl rfl)) ?_
    refine AXl.qt rfl (by decide : (16:Nat) < 34) (Still.qt (s_pick_f _ _ _ rfl)) ?_
    refine AXl.nm_j0 ?_
    refine AXl.nil ?_
    refine hK8 _ ?_
    clear hK8 K8
    refine Ethen.n ?_
    refine hK7 _ ?_
    clear hK7 K7
    refine AXc.cond rfl (fun hc12 => ?_) (fun hc12 => ?_)
    · try simp only [decide_eq_true_eq, decide_eq_false_iff_not, Bool.not_eq_true', Bool.not_eq_false', Int.not_lt, Int.not_le, ne_eq, Decidable.not_not, bne_iff_ne, beq_iff_eq, Bool.and_eq_true, Bool.or_eq_true, Bool.and_eq_false_iff, Bool.or_eq_false_iff, Bool.not_not, Ax.u8eq] at hc12
      refine AXc.seq fun K13 hK13 => ?_
      refine AXc.region' fun K14 hK14 => ?_
      refine AXl.qt rfl (by decide : (4:Nat) < 34) (Still.qt (s_assign _)) ?_
      refine AXl.nm_j0 ?_
      refine AXl.nil ?_
      refine hK14 _ ?_
      clear hK14 K14
      refine Ethen.n ?_
      refine hK13 _ ?_
      clear hK13 K13
      refine AXc.ret ?_
      refine Ethen.r ?_
      clear hK6 K6
      refine Fin.ret rfl rfl ?_
      first
        | rfl
        | (by_cases h : chkP l r.fields = [] <;> simp [h])
    · try simp only [decide_eq_true_eq, decide_eq_false_iff_not, Bool.not_eq_true', Bool.not_eq_false', Int.not_lt, Int.not_le, ne_eq, Decidable.not_not, bne_iff_ne, beq_iff_eq, Bool.and_eq_true, Bool.or_eq_true, Bool.and_eq_false_iff, Bool.or_eq_false_iff, Bool.not_not, Ax.u8eq] at hc12
      refine AXc.skip ?_
      refine Ethen.n ?_
      refine hK6 _ ?_
      clear hK6 K6
      refine AXc.seq fun K15 hK15 => ?_
      refine AXc.region' fun K16 hK16 => ?_
      refine AXl.qt rfl (by decide : (17:Nat) < 34) (Still.qt (s_move _)) ?_
      refine AXl.nm_j0 ?_
      first
        | refine AXl.qt rfl (by decide : (18:Nat) < 34) (Still.qt (s_loadN _ _ ldT_27_j rfl (by simp [Problem.ds, TagRule.ds, Fld.ds, Sub.ds, Rec.ds]))) ?_
        | refine AXl.qt rfl (by decide : (18:Nat) < 34) (Still.qt (s_loadN_row _ _ ldT_27_j rfl rfl (by first | rfl | exact List.getElem?_eq_getElem (by omega)) (by simp [Problem.ds, TagRule.ds, Fld.ds, Sub.ds, Rec.ds]))) ?_
      refine AXl.nm_j0 ?_
      refine AXl.qt rfl (by decide : (19:Nat) < 34) (q_call (c13 l r (okL_of ‹smallB l r.fields = true›) (okS_of ‹smallB l r.fields = true›)) (.cons (by first | exact ArgOk.d | exact ArgOk.bor rfl | exact ArgOk.agg rfl | exact ArgOk.agg (toDs_map _) | exact ArgOk.nil_bor | exact ArgOk.nil_lst | exact ArgOk.fn | exact ArgOk.ptr rfl rfl | exact ArgOk.aggn rfl (by repeat first | exact .nil | refine .cons (.refl _) ?_ | refine .cons (.nil _) ?_)) (.cons (by first | exact ArgOk.d | exact ArgOk.bor rfl | exact ArgOk.agg rfl | exact ArgOk.agg (toDs_map _) | exact ArgOk.nil_bor | exact ArgOk.nil_lst | exact ArgOk.fn | exact ArgOk.ptr rfl rfl | exact ArgOk.aggn rfl (by repeat first | exact .nil | refine .cons (.refl _) ?_ | refine .cons (.nil _) ?_)) .nil))) ?_
      refine AXl.qt rfl (by decide : (5:Nat) < 34) (Still.qt (s_assign _)) ?_
      refine AXl.nm_j0 ?_
      refine AXl.nil ?_
      refine hK16 _ ?_
      clear hK16 K16
      refine Ethen.n ?_
      refine hK15 _ ?_
      clear hK15 K15
      refine AXc.seq fun K17 hK17 => ?_
      refine AXc.region' fun K18 hK18 => ?_
      refine AXl.qt rfl (by decide : (20:Nat) < 34) (Still.qt (s_move _)) ?_
      refine AXl.nm_j0 ?_
      first
        | refine AXl.qt rfl (by decide : (21:Nat) < 34) (Still.qt (s_loadN _ _ ldT_27_j rfl (by simp [Problem.ds, TagRule.ds, Fld.ds, Sub.ds, Rec.ds]))) ?_
        | refine AXl.qt rfl (by decide : (21:Nat) < 34) (Still.qt (s_loadN_row _ _ ldT_27_j rfl rfl (by first | rfl | exact List.getElem?_eq_getElem (by omega)) (by simp [Problem.ds, TagRule.ds, Fld.ds, Sub.ds, Rec.ds]))) ?_
      refine AXl.nm_j0 ?_
      refine AXl.qt rfl (by decide : (22:Nat) < 34) (q_call (c15 l r (okL_of ‹smallB l r.fields = true›) (okS_of ‹smallB l r.fields = true›)) (.cons (by first | exact ArgOk.d | exact ArgOk.bor rfl | exact ArgOk.agg rfl | exact ArgOk.agg (toDs_map _) | exact ArgOk.nil_bor | exact ArgOk.nil_lst | exact ArgOk.fn | exact ArgOk.ptr rfl rfl | exact ArgOk.aggn rfl (by repeat first | exact .nil | refine .cons (.refl _) ?_ | refine .cons (.nil _) ?_)) (.cons (by first | exact ArgOk.d | exact ArgOk.bor rfl | exact ArgOk.agg rfl | exact ArgOk.agg (toDs_map _) | exact ArgOk.nil_bor | exact ArgOk.nil_lst | exact ArgOk.fn | exact ArgOk.ptr rfl rfl | exact ArgOk.aggn rfl (by repeat first | exact .nil | refine .cons (.refl _) ?_ | refine .cons (.nil _) ?_)) .nil))) ?_
      refine AXl.qt rfl (by decide : (23:Nat) < 34) (Still.qt (s_move _)) ?_
      refine AXl.nm_j0 ?_
      refine AXl.qt rfl (by decide : (24:Nat) < 34) (q_call (c14 _ _ ?hs) (.cons (by first | exact ArgOk.d | exact ArgOk.bor rfl | exact ArgOk.agg rfl | exact ArgOk.agg (toDs_map _) | exact ArgOk.nil_bor | exact ArgOk.nil_lst | exact ArgOk.fn | exact ArgOk.ptr rfl rfl | exact ArgOk.aggn rfl (by repeat first | exact .nil | refine .cons (.refl _) ?_ | refine .cons (.nil _) ?_)) (.cons (by first | exact ArgOk.d | exact ArgOk.bor rfl | exact ArgOk.agg rfl | exact ArgOk.agg (toDs_map _) | exact ArgOk.nil_bor | exact ArgOk.nil_lst | exact ArgOk.fn | exact ArgOk.ptr rfl rfl | exact ArgOk.aggn rfl (by repeat first | exact .nil | refine .cons (.refl _) ?_ | refine .cons (.nil _) ?_)) .nil))) ?_
      case hs => exact Nat.le_trans (chkP_len (okL_of ‹smallB l r.fields = true›) (okS_of ‹smallB l r.fields = true›)) (by decide)
      refine AXl.nm_j0 ?_
      refine AXl.qt rfl (by decide : (25:Nat) < 34) (Still.qt (s_move _)) ?_
      refine AXl.qt_guard (by decide : (26:Nat) < 34) rfl (by kernel_rfl) (Still.qt (s_move _)) ?_
      refine AXl.nm_j0 ?_
      first
        | refine AXl.qt_guard (by decide : (27:Nat) < 34) rfl (by kernel_rfl) (Still.qt (s_loadN _ _ ldT_27_j rfl (by simp [Problem.ds, TagRule.ds, Fld.ds, Sub.ds, Rec.ds]))) ?_
        | refine AXl.qt_guard (by decide : (27:Nat) < 34) rfl (by kernel_rfl) (Still.qt (s_loadN_row _ _ ldT_27_j rfl rfl (by first | rfl | exact List.getElem?_eq_getElem (by omega)) (by simp [Problem.ds, TagRule.ds, Fld.ds, Sub.ds, Rec.ds]))) ?_
      refine AXl.nm_j0 ?_
      refine AXl.qt_guard (by decide : (28:Nat) < 34) rfl (by kernel_rfl) (q_call (c16 l r (okL_of ‹smallB l r.fields = true›) (okS_of ‹smallB l r.fields = true›)) (.cons (by first | exact ArgOk.d | exact ArgOk.bor rfl | exact ArgOk.agg rfl | exact ArgOk.agg (toDs_map _) | exact ArgOk.nil_bor | exact ArgOk.nil_lst | exact ArgOk.fn | exact ArgOk.ptr rfl rfl | exact ArgOk.aggn rfl (by repeat first | exact .nil | refine .cons (.refl _) ?_ | refine .cons (.nil _) ?_)) (.cons (by first | exact ArgOk.d | exact ArgOk.bor rfl | exact ArgOk.agg rfl | exact ArgOk.agg (toDs_map _) | exact ArgOk.nil_bor | exact ArgOk.nil_lst | exact ArgOk.fn | exact ArgOk.ptr rfl rfl | exact ArgOk.aggn rfl (by repeat first | exact .nil | refine .cons (.refl _) ?_ | refine .cons (.nil _) ?_)) .nil))) ?_
      refine AXl.qt_guard (by decide : (29:Nat) < 34) rfl (by kernel_rfl) (Still.qt (s_move _)) ?_
      first
        | refine AXl.qt_guard (by decide : (30:Nat) < 34) rfl (by kernel_rfl) (Still.qt (s_len _ _ Tryd.underlying35 rfl)) ?_
        | refine AXl.qt_guard (by decide : (30:Nat) < 34) rfl (by kernel_rfl) (Still.qt (s_len_nil _ _ Tryd.underlying35 rfl)) ?_
      refine AXl.qt_guard (by decide : (31:Nat) < 34) rfl (by kernel_rfl) (Still.qt (s_icmp _ _ _ _ _ rfl rfl rfl)) ?_
      refine AXl.qt_guard (by decide : (32:Nat) < 34) rfl (by kernel_rfl) (Still.qt (s_bcmp _ _ _ _ _ Tryd.underlying4 rfl rfl rfl)) ?_
      refine AXl.qt rfl (by decide : (33:Nat) < 34) (Still.qt (s_pick_t _ _ _ rfl)) ?_
      refine AXl.qt rfl (by decide : (4:Nat) < 34) (Still.qt (s_assign _)) ?_
      refine AXl.nm_j0 ?_
      refine AXl.nil ?_
      refine hK18 _ ?_
      clear hK18 K18
      refine Ethen.n ?_
      refine hK17 _ ?_
      clear hK17 K17
      refine AXc.ret ?_
      refine Fin.ret rfl rfl ?_
      first
        | rfl
        | (by_cases h : chkP l r.fields = [] <;> simp [h])
set_option maxHeartbeats 1600000 in
/-- The contract of library librarylaw09.RulesUsual. -/
theorem c5 (r : Rec) : AFn Tryd.prog [(0, (stdL.map TagRule.ds).flatten)] 5 [.agg (r.ds.map C.d)] [.d (.bool true)] := by
  refine AFn.of_body0 (n := 20) (res := [.tmp 2]) Tryd.func5 (by kernel_rfl) rfl Tryd.ntmps5 (by rw [Tryd.results5]) (by simp) ?_
  simp only [envOf, Nat.reduceAdd]
  refine AXc.seq fun K1 hK1 => ?_
  refine AXc.region' fun K2 hK2 => ?_
  refine AXl.box rfl (by decide : (1:Nat) < 20) ?_
  refine AXl.qt rfl (by decide : (2:Nat) < 20) (Still.qt (s_assign _)) ?_
  refine AXl.nm_j0 ?_
  refine AXl.nil ?_
  refine hK2 _ ?_
  clear hK2 K2
  refine Ethen.n ?_
  refine hK1 _ ?_
  clear hK1 K1
  refine AXc.seq fun K3 hK3 => ?_
  refine AXc.seq fun K4 hK4 => ?_
  refine AXc.region' fun K5 hK5 => ?_
  refine AXl.qt rfl (by decide : (4:Nat) < 20) (q_call c8 .nil) ?_
  refine AXl.nm_j0 ?_
  refine AXl.qt rfl (by decide : (5:Nat) < 20) (Still.qt (s_not _ _ rfl)) ?_
  refine AXl.nm_j0 ?_
  refine AXl.nil ?_
  refine hK5 _ ?_
  clear hK5 K5
  refine Ethen.n ?_
  refine hK4 _ ?_
  clear hK4 K4
  refine AXc.cond_f rfl ?_
  refine AXc.skip ?_
  refine Ethen.n ?_
  refine hK3 _ ?_
  clear hK3 K3
  refine AXc.seq fun K6 hK6 => ?_
  refine AXc.region' fun K7 hK7 => ?_
  refine AXl.qt rfl (by decide : (6:Nat) < 20) (q_call c17 .nil) ?_
  refine AXl.qt rfl (by decide : (3:Nat) < 20) (Still.qt (s_assign _)) ?_
  refine AXl.nm_j0 ?_
  refine AXl.nil ?_
  refine hK7 _ ?_
  clear hK7 K7
  refine Ethen.n ?_
  refine hK6 _ ?_
  clear hK6 K6
  refine AXc.seq fun K8 hK8 => ?_
  refine AXc.draw' mixed_j 14 (by kernel_rfl) fun K9 hK9 => ?_
  simp only [List.take_succ_cons, List.take_zero, List.take_nil, List.drop_succ_cons, List.drop_zero, List.drop_nil]
  refine AXd.op rfl (Still.qt (s_move _)) ?_
  refine AXd.nm_j0 ?_
  first
    | refine AXd.op rfl (Still.qt (s_loadN _ _ ldT_27_j rfl (by simp [Problem.ds, TagRule.ds, Fld.ds, Sub.ds, Rec.ds]))) ?_
    | refine AXd.op rfl (Still.qt (s_loadN_row _ _ ldT_27_j rfl rfl (by first | rfl | exact List.getElem?_eq_getElem (by omega)) (by simp [Problem.ds, TagRule.ds, Fld.ds, Sub.ds, Rec.ds]))) ?_
  refine AXd.nm_j0 ?_
  refine AXd.op rfl (q_call (c9 stdL r) (.cons (by first | exact ArgOk.d | exact ArgOk.bor rfl | exact ArgOk.agg rfl | exact ArgOk.agg (toDs_map _) | exact ArgOk.nil_bor | exact ArgOk.nil_lst | exact ArgOk.fn | exact ArgOk.ptr rfl rfl | exact ArgOk.aggn rfl (by repeat first | exact .nil | refine .cons (.refl _) ?_ | refine .cons (.nil _) ?_)) (.cons (by first | exact ArgOk.d | exact ArgOk.bor rfl | exact ArgOk.agg rfl | exact ArgOk.agg (toDs_map _) | exact ArgOk.nil_bor | exact ArgOk.nil_lst | exact ArgOk.fn | exact ArgOk.ptr rfl rfl | exact ArgOk.aggn rfl (by repeat first | exact .nil | refine .cons (.refl _) ?_ | refine .cons (.nil _) ?_)) .nil))) ?_
  refine AXd.op rfl (Still.qt (s_not _ _ rfl)) ?_
  refine AXd.op rfl (Still.qt (s_move _)) ?_
  refine AXd.nm_j0 ?_
  refine AXd.split 11 _ rfl (fun hg10 => ?_) (fun hg10 => ?_)
  · try simp only [decide_eq_true_eq, decide_eq_false_iff_not, Bool.not_eq_true', Bool.not_eq_false', Int.not_lt, Int.not_le, ne_eq, Decidable.not_not, bne_iff_ne, beq_iff_eq, Bool.and_eq_true, Bool.or_eq_true, Bool.and_eq_false_iff, Bool.or_eq_false_iff, Bool.not_not, Ax.u8eq] at hg10
    simp only [del, ↓reduceIte, Nat.reduceEqDiff]
    refine AXd.skip rfl ?_
    refine AXd.skip rfl ?_
    refine AXd.skip rfl ?_
    refine AXd.skip rfl ?_
    refine AXd.skip rfl ?_
    refine AXd.skip rfl ?_
    refine AXd.skip rfl ?_
    refine AXd.op rfl (Still.qt (s_pick_t _ _ _ rfl)) ?_
    refine AXd.op rfl (Still.qt (s_assign _)) ?_
    refine AXd.nm_j0 ?_
    refine AXd.nil ?_
    refine AXl.nil ?_
    refine hK9 _ ?_
    clear hK9 K9
    refine Ethen.n ?_
    refine hK8 _ ?_
    clear hK8 K8
    refine AXc.ret ?_
    refine Fin.ret rfl rfl ?_
    rfl
  · try simp only [decide_eq_true_eq, decide_eq_false_iff_not, Bool.not_eq_true', Bool.not_eq_false', Int.not_lt, Int.not_le, ne_eq, Decidable.not_not, bne_iff_ne, beq_iff_eq, Bool.and_eq_true, Bool.or_eq_true, Bool.and_eq_false_iff, Bool.or_eq_false_iff, Bool.not_not, Ax.u8eq] at hg10
    simp only [del, ↓reduceIte, Nat.reduceEqDiff]
    refine AXd.op rfl (q_call c18 .nil) ?_
    refine AXd.nm_j0 ?_
    first
      | refine AXd.op rfl (Still.qt (s_loadN _ _ ldT_27_j rfl (by simp [Problem.ds, TagRule.ds, Fld.ds, Sub.ds, Rec.ds]))) ?_
      | refine AXd.op rfl (Still.qt (s_loadN_row _ _ ldT_27_j rfl rfl (by first | rfl | exact List.getElem?_eq_getElem (by omega)) (by simp [Problem.ds, TagRule.ds, Fld.ds, Sub.ds, Rec.ds]))) ?_
    refine AXd.nm_j0 ?_
    refine AXd.op rfl (q_call (c15 stdL r okStd (okS_of ‹smallB stdL r.fields = true›)) (.cons (by first | exact ArgOk.d | exact ArgOk.bor rfl | exact ArgOk.agg rfl | exact ArgOk.agg (toDs_map _) | exact ArgOk.nil_bor | exact ArgOk.nil_lst | exact ArgOk.fn | exact ArgOk.ptr rfl rfl | exact ArgOk.aggn rfl (by repeat first | exact .nil | refine .cons (.refl _) ?_ | refine .cons (.nil _) ?_)) (.cons (by first | exact ArgOk.d | exact ArgOk.bor rfl | exact ArgOk.agg rfl | exact ArgOk.agg (toDs_map _) | exact ArgOk.nil_bor | exact ArgOk.nil_lst | exact ArgOk.fn | exact ArgOk.ptr rfl rfl | exact ArgOk.aggn rfl (by repeat first | exact .nil | refine .cons (.refl _) ?_ | refine .cons (.nil _) ?_)) .nil))) ?_
    refine AXd.op rfl (Still.qt (s_move _)) ?_
    refine AXd.nm_j0 ?_
    first
      | refine AXd.op rfl (Still.qt (s_loadN _ _ ldT_27_j rfl (by simp [Problem.ds, TagRule.ds, Fld.ds, Sub.ds, Rec.ds]))) ?_
      | refine AXd.op rfl (Still.qt (s_loadN_row _ _ ldT_27_j rfl rfl (by first | rfl | exact List.getElem?_eq_getElem (by omega)) (by simp [Problem.ds, TagRule.ds, Fld.ds, Sub.ds, Rec.ds]))) ?_
    refine AXd.nm_j0 ?_
    refine AXd.op rfl (q_call (c13 stdL r okStd (okS_of ‹smallB stdL r.fields = true›)) (.cons (by first | exact ArgOk.d | exact ArgOk.bor rfl | exact ArgOk.agg rfl | exact ArgOk.agg (toDs_map _) | exact ArgOk.nil_bor | exact ArgOk.nil_lst | exact ArgOk.fn | exact ArgOk.ptr rfl rfl | exact ArgOk.aggn rfl (by repeat first | exact .nil | refine .cons (.refl _) ?_ | refine .cons (.nil _) ?_)) (.cons (by first | exact ArgOk.d | exact ArgOk.bor rfl | exact ArgOk.agg rfl | exact ArgOk.agg (toDs_map _) | exact ArgOk.nil_bor | exact ArgOk.nil_lst | exact ArgOk.fn | exact ArgOk.ptr rfl rfl | exact ArgOk.aggn rfl (by repeat first | exact .nil | refine .cons (.refl _) ?_ | refine .cons (.nil _) ?_)) .nil))) ?_
    refine AXd.nm_j0 ?_
    refine AXd.op rfl (q_call (c14 _ _ ?hs) (.cons (by first | exact ArgOk.d | exact ArgOk.bor rfl | exact ArgOk.agg rfl | exact ArgOk.agg (toDs_map _) | exact ArgOk.nil_bor | exact ArgOk.nil_lst | exact ArgOk.fn | exact ArgOk.ptr rfl rfl | exact ArgOk.aggn rfl (by repeat first | exact .nil | refine .cons (.refl _) ?_ | refine .cons (.nil _) ?_)) (.cons (by first | exact ArgOk.d | exact ArgOk.bor rfl | exact ArgOk.agg rfl | exact ArgOk.agg (toDs_map _) | exact ArgOk.nil_bor | exact ArgOk.nil_lst | exact ArgOk.fn | exact ArgOk.ptr rfl rfl | exact ArgOk.aggn rfl (by repeat first | exact .nil | refine .cons (.refl _) ?_ | refine .cons (.nil _) ?_)) .nil))) ?_
    case hs => exact Nat.le_trans (chkP_len okStd (okS_of ‹smallB stdL r.fields = true›)) (by decide)
    refine AXd.nm_j0 ?_
    refine AXd.op rfl (Still.qt (s_pick_f _ _ _ rfl)) ?_
    refine AXd.op rfl (Still.qt (s_assign _)) ?_
    refine AXd.nm_j0 ?_
    refine AXd.nil ?_
    refine AXl.nil ?_
    refine hK9 _ ?_
    clear hK9 K9
    refine Ethen.n ?_
    refine hK8 _ ?_
    clear hK8 K8
    refine AXc.ret ?_
    refine Fin.ret rfl rfl ?_
    rfl
set_option maxHeartbeats 1600000 in
/-- The contract of library librarylaw09.RulesEmpty. -/
theorem c6 (l : List TagRule) : AFn Tryd.prog [(0, (stdL.map TagRule.ds).flatten)] 6 [.c (.d (.lst 7 (l.map TagRule.ds)))] [.d (.bool true)] := by
  refine AFn.of_body0 (n := 51) (res := [.tmp 2]) Tryd.func6 (by kernel_rfl) rfl Tryd.ntmps6 (by rw [Tryd.results6]) (by simp) ?_
  simp only [envOf, Nat.reduceAdd]
  refine AXc.seq fun K1 hK1 => ?_
  refine AXc.region' fun K2 hK2 => ?_
  refine AXl.qt rfl (by decide : (2:Nat) < 51) (Still.qt (s_assign _)) ?_
  refine AXl.nm_j0 ?_
  refine AXl.nil ?_
  refine hK2 _ ?_
  clear hK2 K2
  refine Ethen.n ?_
  refine hK1 _ ?_
  clear hK1 K1
  refine AXc.seq fun K3 hK3 => ?_
  refine AXc.seq fun K4 hK4 => ?_
  refine AXc.region' fun K5 hK5 => ?_
  refine AXl.qt rfl (by decide : (5:Nat) < 51) (q_call c8 .nil) ?_
  refine AXl.nm_j0 ?_
  refine AXl.qt rfl (by decide : (6:Nat) < 51) (Still.qt (s_not _ _ rfl)) ?_
  refine AXl.nm_j0 ?_
  refine AXl.nil ?_
  refine hK5 _ ?_
  clear hK5 K5
  refine Ethen.n ?_
  refine hK4 _ ?_
  clear hK4 K4
  refine AXc.cond_f rfl ?_
  refine AXc.skip ?_
  refine Ethen.n ?_
  refine hK3 _ ?_
  clear hK3 K3
  refine AXc.seq fun K6 hK6 => ?_
  refine AXc.seq fun K7 hK7 => ?_
  refine AXc.region' fun K8 hK8 => ?_
  refine AXl.qt rfl (by decide : (7:Nat) < 51) (Still.qt (s_move _)) ?_
  refine AXl.qt rfl (by decide : (8:Nat) < 51) (Still.qt (s_build _ _ plT_27_j zC_27_j rfl)) ?_
  refine AXl.nm_j0 ?_
  refine AXl.qt rfl (by decide : (9:Nat) < 51) (q_call (c9 l emptyR) (.cons (by first | exact ArgOk.d | exact ArgOk.bor rfl | exact ArgOk.agg rfl | exact ArgOk.agg (toDs_map _) | exact ArgOk.nil_bor | exact ArgOk.nil_lst | exact ArgOk.fn | exact ArgOk.ptr rfl rfl | exact ArgOk.aggn rfl (by repeat first | exact .nil | refine .cons (.refl _) ?_ | refine .cons (.nil _) ?_)) (.cons (by first | exact ArgOk.d | exact ArgOk.bor rfl | exact ArgOk.agg rfl | exact ArgOk.agg (toDs_map _) | exact ArgOk.nil_bor | exact ArgOk.nil_lst | exact ArgOk.fn | exact ArgOk.ptr rfl rfl | exact ArgOk.aggn rfl (by repeat first | exact .nil | refine .cons (.refl _) ?_ | refine .cons (.nil _) ?_)) .nil))) ?_
  refine AXl.qt rfl (by decide : (10:Nat) < 51) (Still.qt (s_not _ _ rfl)) ?_
  refine AXl.qt rfl (by decide : (11:Nat) < 51) (Still.qt (s_move _)) ?_
  refine AXl.nm_j0 ?_
  refine AXl.split 11 _ rfl (fun hg9 => ?_) (fun hg9 => ?_)
  · try simp only [decide_eq_true_eq, decide_eq_false_iff_not, Bool.not_eq_true', Bool.not_eq_false', Int.not_lt, Int.not_le, ne_eq, Decidable.not_not, bne_iff_ne, beq_iff_eq, Bool.and_eq_true, Bool.or_eq_true, Bool.and_eq_false_iff, Bool.or_eq_false_iff, Bool.not_not, Ax.u8eq] at hg9
    simp only [del, ↓reduceIte, Nat.reduceEqDiff]
    refine AXl.skip_guard (by decide : (12:Nat) < 51) rfl (by kernel_rfl) ?_
    refine AXl.skip_guard (by decide : (13:Nat) < 51) rfl (by kernel_rfl) ?_
    refine AXl.skip_guard (by decide : (14:Nat) < 51) rfl (by kernel_rfl) ?_
    refine AXl.qt rfl (by decide : (15:Nat) < 51) (Still.qt (s_pick_t _ _ _ rfl)) ?_
    refine AXl.nm_j0 ?_
    refine AXl.nil ?_
    refine hK8 _ ?_
    clear hK8 K8
    refine Ethen.n ?_
    refine hK7 _ ?_
    clear hK7 K7
    refine AXc.cond_t rfl ?_
    refine AXc.seq fun K10 hK10 => ?_
    refine AXc.region' fun K11 hK11 => ?_
    refine AXl.qt rfl (by decide : (2:Nat) < 51) (Still.qt (s_assign _)) ?_
    refine AXl.nm_j0 ?_
    refine AXl.nil ?_
    refine hK11 _ ?_
    clear hK11 K11
    refine Ethen.n ?_
    refine hK10 _ ?_
    clear hK10 K10
    refine AXc.ret ?_
    refine Ethen.r ?_
    clear hK6 K6
    refine Fin.ret rfl rfl ?_
    first
      | rfl
      | (by_cases h : chkP l [] = [] <;> simp [h, emptyR])
  · try simp only [decide_eq_true_eq, decide_eq_false_iff_not, Bool.not_eq_true', Bool.not_eq_false', Int.not_lt, Int.not_le, ne_eq, Decidable.not_not, bne_iff_ne, beq_iff_eq, Bool.and_eq_true, Bool.or_eq_true, Bool.and_eq_false_iff, Bool.or_eq_false_iff, Bool.not_not, Ax.u8eq] at hg9
    simp only [del, ↓reduceIte, Nat.reduceEqDiff]
    refine AXl.qt_guard (by decide : (12:Nat) < 51) rfl (by kernel_rfl) (Still.qt (s_move _)) ?_
    refine AXl.nm_j0 ?_
    refine AXl.qt_guard (by decide : (13:Nat) < 51) rfl (by kernel_rfl) (q_call (c12 l (okL_of ‹smallB l emptyR.fields = true›)) (.cons (by first | exact ArgOk.d | exact ArgOk.bor rfl | exact ArgOk.agg rfl | exact ArgOk.agg (toDs_map _) | exact ArgOk.nil_bor | exact ArgOk.nil_lst | exact ArgOk.fn | exact ArgOk.ptr rfl rfl | exact ArgOk.aggn rfl (by repeat first | exact .nil | refine .cons (.refl _) ?_ | refine .cons (.nil _) ?_)) .nil)) ?_
    refine AXl.qt_guard (by decide : (14:Nat) < 51) rfl (by kernel_rfl) (Still.qt (s_icmp _ _ _ _ _ rfl rfl rfl)) ?_
    refine AXl.qt rfl (by decide : (15:Nat) < 51) (Still.qt (s_pick_f _ _ _ rfl)) ?_
    refine AXl.nm_j0 ?_
    refine AXl.nil ?_
    refine hK8 _ ?_
    clear hK8 K8
    refine Ethen.n ?_
    refine hK7 _ ?_
    clear hK7 K7
    refine AXc.cond rfl (fun hc12 => ?_) (fun hc12 => ?_)
    · try simp only [decide_eq_true_eq, decide_eq_false_iff_not, Bool.not_eq_true', Bool.not_eq_false', Int.not_lt, Int.not_le, ne_eq, Decidable.not_not, bne_iff_ne, beq_iff_eq, Bool.and_eq_true, Bool.or_eq_true, Bool.and_eq_false_iff, Bool.or_eq_false_iff, Bool.not_not, Ax.u8eq] at hc12
      refine AXc.seq fun K13 hK13 => ?_
      refine AXc.region' fun K14 hK14 => ?_
      refine AXl.qt rfl (by decide : (2:Nat) < 51) (Still.qt (s_assign _)) ?_
      refine AXl.nm_j0 ?_
      refine AXl.nil ?_
      refine hK14 _ ?_
      clear hK14 K14
      refine Ethen.n ?_
      refine hK13 _ ?_
      clear hK13 K13
      refine AXc.ret ?_
      refine Ethen.r ?_
      clear hK6 K6
      refine Fin.ret rfl rfl ?_
      first
        | rfl
        | (by_cases h : chkP l [] = [] <;> simp [h, emptyR])
    · try simp only [decide_eq_true_eq, decide_eq_false_iff_not, Bool.not_eq_true', Bool.not_eq_false', Int.not_lt, Int.not_le, ne_eq, Decidable.not_not, bne_iff_ne, beq_iff_eq, Bool.and_eq_true, Bool.or_eq_true, Bool.and_eq_false_iff, Bool.or_eq_false_iff, Bool.not_not, Ax.u8eq] at hc12
      refine AXc.skip ?_
      refine Ethen.n ?_
      refine hK6 _ ?_
      clear hK6 K6
      refine AXc.seq fun K15 hK15 => ?_
      refine AXc.region' fun K16 hK16 => ?_
      refine AXl.buildSlice apT_35_j rfl rfl (by decide) (by decide : (16:Nat) < 51) ?_
      refine AXl.qt rfl (by decide : (3:Nat) < 51) (Still.qt (s_assign _)) ?_
      refine AXl.nm_j0 ?_
      refine AXl.nil ?_
      refine hK16 _ ?_
      clear hK16 K16
      refine Ethen.n ?_
      refine hK15 _ ?_
      clear hK15 K15
      refine AXc.seq fun K17 hK17 => ?_
      refine AXc.seq fun K18 hK18 => ?_
      refine AXc.region' fun K19 hK19 => ?_
      refine AXl.qt rfl (by decide : (4:Nat) < 51) (Still.qt (s_assign _)) ?_
      refine AXl.nm_j0 ?_
      refine AXl.nil ?_
      refine hK19 _ ?_
      clear hK19 K19
      refine Ethen.n ?_
      refine hK18 _ ?_
      clear hK18 K18
      refine AXc.block ?_
      have hl60 := (okL_of ‹smallB l emptyR.fields = true›).len
      have hml := mustP_len [] l
      refine AXc.loop (S := Nat × Nat × List Problem) (fun ⟨k, ver, out⟩ => ⟨[(0, .c (.d (.lst 7 (l.map TagRule.ds)))), (3, .c (.own 0 ver)), (4, .c (.d (.int .i64 k)))], [.row 41 4 (out.map Problem.ds) ver]⟩) (fun ⟨k, ver, out⟩ => k ≤ l.length ∧ out ++ mustP [] (l.drop k) = mustP [] l) (fun ⟨k, ver, out⟩ => l.length - k) (0, 0, []) ⟨by omega, by simp⟩ (by refine ⟨?_, ?_, ?_, ?_, ?_, ?_⟩ <;> (simp [subE, lk, AV.low, C.low, LB.low, Problem.ds, TagRule.ds, Fld.ds, Sub.ds, Rec.ds] <;> fail)) ?_
      rintro ⟨k, ver, out⟩ ⟨hk0, hinv⟩
      have hb := congrArg List.length hinv; rw [List.length_append] at hb
      try simp only [Problem.ds, TagRule.ds, Fld.ds, Sub.ds, Rec.ds, eq_self, decide_true, beq_self_eq_true, Bool.not_true, Bool.not_false, List.map_cons, List.map_nil]
      refine AXc.seq fun K20 hK20 => ?_
      refine AXc.seq fun K21 hK21 => ?_
      refine AXc.region' fun K22 hK22 => ?_
      refine AXl.qt rfl (by decide : (17:Nat) < 51) (Still.qt (s_move _)) ?_
      refine AXl.qt rfl (by decide : (18:Nat) < 51) (Still.qt (s_move _)) ?_
      first
        | refine AXl.qt rfl (by decide : (19:Nat) < 51) (Still.qt (s_len _ _ Tryd.underlying22 rfl)) ?_
        | refine AXl.qt rfl (by decide : (19:Nat) < 51) (Still.qt (s_len_nil _ _ Tryd.underlying22 rfl)) ?_
      refine AXl.qt rfl (by decide : (20:Nat) < 51) (Still.qt (s_icmp _ _ _ _ _ rfl rfl rfl)) ?_
      refine AXl.nm_j0 ?_
      refine AXl.nil ?_
      refine hK22 _ ?_
      clear hK22 K22
      refine Ethen.n ?_
      refine hK21 _ ?_
      clear hK21 K21
      refine AXc.cond rfl (fun hc23 => ?_) (fun hc23 => ?_)
      · try simp only [decide_eq_true_eq, decide_eq_false_iff_not, Bool.not_eq_true', Bool.not_eq_false', Int.not_lt, Int.not_le, ne_eq, Decidable.not_not, bne_iff_ne, beq_iff_eq, Bool.and_eq_true, Bool.or_eq_true, Bool.and_eq_false_iff, Bool.or_eq_false_iff, Bool.not_not, Ax.u8eq] at hc23
        have hk : k < l.length := by omega
        refine AXc.skip ?_
        refine Ethen.n ?_
        refine hK20 _ ?_
        clear hK20 K20
        refine AXc.seq fun K24 hK24 => ?_
        refine AXc.block ?_
        refine AXc.seq fun K25 hK25 => ?_
        refine AXc.region' fun K26 hK26 => ?_
        refine AXl.qt rfl (by decide : (23:Nat) < 51) (Still.qt (s_move _)) ?_
        refine AXl.qt rfl (by decide : (24:Nat) < 51) (Still.qt (s_move _)) ?_
        first
          | refine AXl.qt rfl (by decide : (25:Nat) < 51) (Still.qt (s_index _ _ _ slT_22_j (.inl rfl) rfl rfl (by first | omega | (simp only [List.length_map, List.length_cons, List.length_nil, List.length_append, List.length_take, List.length_drop]; omega)) (List.getElem?_eq_getElem (by first | omega | (simp only [List.length_map, List.length_cons, List.length_nil, List.length_append, List.length_take, List.length_drop]; omega))))) ?_
          | refine AXl.qt rfl (by decide : (25:Nat) < 51) (Still.qt (s_index _ _ _ slT_22_j (.inr rfl) rfl rfl (by first | omega | (simp only [List.length_map, List.length_cons, List.length_nil, List.length_append, List.length_take, List.length_drop]; omega)) (List.getElem?_eq_getElem (by first | omega | (simp only [List.length_map, List.length_cons, List.length_nil, List.length_append, List.length_take, List.length_drop]; omega))))) ?_
          | refine AXl.qt rfl (by decide : (25:Nat) < 51) (Still.qt (s_index_own _ _ _ slT_22_j rfl rfl rfl rfl (by first | omega | (simp only [List.length_map, List.length_cons, List.length_nil, List.length_append, List.length_take, List.length_drop]; omega)) (by first | omega | (simp only [List.length_map, List.length_cons, List.length_nil, List.length_append, List.length_take, List.length_drop]; omega)))) ?_
        refine AXl.nm_j0 ?_
        first
          | refine AXl.qt rfl (by decide : (26:Nat) < 51) (Still.qt (s_field_loc _ _ _ fdT_29_2_j rfl)) ?_
          | refine AXl.qt rfl (by decide : (26:Nat) < 51) (Still.qt (s_field_ptr _ _ _ fdT_29_2_j rfl)) ?_
          | refine AXl.qt rfl (by decide : (26:Nat) < 51) (Still.qt (s_field_row _ _ _ fdT_29_2_j rfl rfl)) ?_
        first
          | refine AXl.qt rfl (by decide : (27:Nat) < 51) (Still.qt (s_load1 _ _ ldT_4_j rfl)) ?_
          | refine AXl.qt rfl (by decide : (27:Nat) < 51) (Still.qt (s_load1_row _ _ ldT_4_j rfl rfl (by first | rfl | exact List.getElem?_eq_getElem (by omega)) rfl)) ?_
        refine AXl.nm_j0 ?_
        refine AXl.nil ?_
        refine hK26 _ ?_
        clear hK26 K26
        refine Ethen.n ?_
        refine hK25 _ ?_
        clear hK25 K25
        refine AXc.cond rfl (fun hc27 => ?_) (fun hc27 => ?_)
        · try simp only [decide_eq_true_eq, decide_eq_false_iff_not, Bool.not_eq_true', Bool.not_eq_false', Int.not_lt, Int.not_le, ne_eq, Decidable.not_not, bne_iff_ne, beq_iff_eq, Bool.and_eq_true, Bool.or_eq_true, Bool.and_eq_false_iff, Bool.or_eq_false_iff, Bool.not_not, Ax.u8eq] at hc27
          refine AXc.region' fun K28 hK28 => ?_
          refine AXl.qt rfl (by decide : (28:Nat) < 51) (Still.qt (s_move _)) ?_
          refine AXl.qt rfl (by decide : (29:Nat) < 51) (Still.qt (s_move _)) ?_
          refine AXl.qt rfl (by decide : (30:Nat) < 51) (Still.qt (s_move _)) ?_
          first
            | refine AXl.qt rfl (by decide : (31:Nat) < 51) (Still.qt (s_index _ _ _ slT_22_j (.inl rfl) rfl rfl (by first | omega | (simp only [List.length_map, List.length_cons, List.length_nil, List.length_append, List.length_take, List.length_drop]; omega)) (List.getElem?_eq_getElem (by first | omega | (simp only [List.length_map, List.length_cons, List.length_nil, List.length_append, List.length_take, List.length_drop]; omega))))) ?_
            | refine AXl.qt rfl (by decide : (31:Nat) < 51) (Still.qt (s_index _ _ _ slT_22_j (.inr rfl) rfl rfl (by first | omega | (simp only [List.length_map, List.length_cons, List.length_nil, List.length_append, List.length_take, List.length_drop]; omega)) (List.getElem?_eq_getElem (by first | omega | (simp only [List.length_map, List.length_cons, List.length_nil, List.length_append, List.length_take, List.length_drop]; omega))))) ?_
            | refine AXl.qt rfl (by decide : (31:Nat) < 51) (Still.qt (s_index_own _ _ _ slT_22_j rfl rfl rfl rfl (by first | omega | (simp only [List.length_map, List.length_cons, List.length_nil, List.length_append, List.length_take, List.length_drop]; omega)) (by first | omega | (simp only [List.length_map, List.length_cons, List.length_nil, List.length_append, List.length_take, List.length_drop]; omega)))) ?_
          refine AXl.nm_j0 ?_
          first
            | refine AXl.qt rfl (by decide : (32:Nat) < 51) (Still.qt (s_field_loc _ _ _ fdT_29_0_j rfl)) ?_
            | refine AXl.qt rfl (by decide : (32:Nat) < 51) (Still.qt (s_field_ptr _ _ _ fdT_29_0_j rfl)) ?_
            | refine AXl.qt rfl (by decide : (32:Nat) < 51) (Still.qt (s_field_row _ _ _ fdT_29_0_j rfl rfl)) ?_
          first
            | refine AXl.qt rfl (by decide : (33:Nat) < 51) (Still.qt (s_load1 _ _ ldT_9_j rfl)) ?_
            | refine AXl.qt rfl (by decide : (33:Nat) < 51) (Still.qt (s_load1_row _ _ ldT_9_j rfl rfl (by first | rfl | exact List.getElem?_eq_getElem (by omega)) rfl)) ?_
          refine AXl.nm_j0 ?_
          refine AXl.qt rfl (by decide : (34:Nat) < 51) (Still.qt (s_build _ _ plT_41_j zC_41_j rfl)) ?_
          refine AXl.qt rfl (by decide : (35:Nat) < 51) (q_buildSlice _ _ _ apT_35_j rfl rfl (by decide)) ?_
          first
            | refine AXl.append apT_35_j rfl rfl rfl (by simp only [List.length_append, List.length_map, List.length_cons, List.length_nil]; omega) (by simp only [List.length_append, List.length_map, List.length_cons, List.length_nil]; omega) (by decide : (36:Nat) < 51) ?_
            | refine AXl.append_nil apT_35_j rfl (by decide) rfl (by simp only [List.length_append, List.length_map, List.length_cons, List.length_nil]; omega) (by simp only [List.length_append, List.length_map, List.length_cons, List.length_nil]; omega) (by decide : (36:Nat) < 51) ?_
          refine AXl.qt rfl (by decide : (3:Nat) < 51) (Still.qt (s_assign _)) ?_
          refine AXl.nm_j0 ?_
          refine AXl.nil ?_
          refine hK28 _ ?_
          clear hK28 K28
          refine EinBlock.n ?_
          refine Ethen.n ?_
          refine hK24 _ ?_
          clear hK24 K24
          refine AXc.region' fun K29 hK29 => ?_
          refine AXl.qt rfl (by decide : (21:Nat) < 51) (Still.qt (s_move _)) ?_
          refine AXl.qt rfl (by decide : (22:Nat) < 51) (Still.qt (s_iar _ _ _ _ _ rfl rfl rfl (IntWalk.i64_in _ ⟨(by first | omega | (simp only [List.length_map, List.length_cons, List.length_nil, List.length_append, List.length_take, List.length_drop]; omega)), (by first | omega | (simp only [List.length_map, List.length_cons, List.length_nil, List.length_append, List.length_take, List.length_drop]; omega))⟩))) ?_
          refine AXl.qt rfl (by decide : (4:Nat) < 51) (Still.qt (s_assign _)) ?_
          refine AXl.nm_j0 ?_
          refine AXl.nil ?_
          refine hK29 _ ?_
          clear hK29 K29
          refine Ethen.n ?_
          clear hK17 K17
          rw [must_next [] l hk] at hinv
          first
            | (refine ⟨(k + 1, ver + 1, out ++ [⟨1, -1, l[k].tag, 0⟩]), ?_⟩
               refine ⟨⟨?_, ?_⟩, ?_, ?_⟩
               · omega
               · simp only [hg9, hc12, hc23, hc27, List.any_nil, Bool.not_false, Bool.and_true, Bool.and_self, if_true, if_false, ↓reduceIte, Bool.false_eq_true, Bool.false_and, List.nil_append] at hinv
                 first | exact hinv | (rw [List.append_assoc]; exact hinv)
               · first | omega | (dsimp only; omega)
               · refine ⟨?_, ?_, ?_, ?_, ?_, ?_⟩ <;> (simp [subE, lk, AV.low, C.low, LB.low, Problem.ds, TagRule.ds, Fld.ds, Sub.ds, Rec.ds] <;> fail))
            | (refine ⟨(k + 1, ver, out), ?_⟩
               refine ⟨⟨?_, ?_⟩, ?_, ?_⟩
               · omega
               · simp only [hg9, hc12, hc23, hc27, List.any_nil, Bool.not_false, Bool.and_true, Bool.and_self, if_true, if_false, ↓reduceIte, Bool.false_eq_true, Bool.false_and, List.nil_append] at hinv
                 first | exact hinv | (rw [List.append_assoc]; exact hinv)
               · first | omega | (dsimp only; omega)
               · refine ⟨?_, ?_, ?_, ?_, ?_, ?_⟩ <;> (simp [subE, lk, AV.low, C.low, LB.low, Problem.ds, TagRule.ds, Fld.ds, Sub.ds, Rec.ds] <;> fail))
        · try simp only [decide_eq_true_eq, decide_eq_false_iff_not, Bool.not_eq_true', Bool.not_eq_false', Int.not_lt, Int.not_le, ne_eq, Decidable.not_not, bne_iff_ne, beq_iff_eq, Bool.and_eq_true, Bool.or_eq_true, Bool.and_eq_false_iff, Bool.or_eq_false_iff, Bool.not_not, Ax.u8eq] at hc27
          refine AXc.skip ?_
          refine EinBlock.n ?_
          refine Ethen.n ?_
          refine hK24 _ ?_
          clear hK24 K24
          refine AXc.region' fun K30 hK30 => ?_
          refine AXl.qt rfl (by decide : (21:Nat) < 51) (Still.qt (s_move _)) ?_
          refine AXl.qt rfl (by decide : (22:Nat) < 51) (Still.qt (s_iar _ _ _ _ _ rfl rfl rfl (IntWalk.i64_in _ ⟨(by first | omega | (simp only [List.length_map, List.length_cons, List.length_nil, List.length_append, List.length_take, List.length_drop]; omega)), (by first | omega | (simp only [List.length_map, List.length_cons, List.length_nil, List.length_append, List.length_take, List.length_drop]; omega))⟩))) ?_
          refine AXl.qt rfl (by decide : (4:Nat) < 51) (Still.qt (s_assign _)) ?_
          refine AXl.nm_j0 ?_
          refine AXl.nil ?_
          refine hK30 _ ?_
          clear hK30 K30
          refine Ethen.n ?_
          clear hK17 K17
          rw [must_next [] l hk] at hinv
          first
            | (refine ⟨(k + 1, ver + 1, out ++ [⟨1, -1, l[k].tag, 0⟩]), ?_⟩
               refine ⟨⟨?_, ?_⟩, ?_, ?_⟩
               · omega
               · simp only [hg9, hc12, hc23, hc27, List.any_nil, Bool.not_false, Bool.and_true, Bool.and_self, if_true, if_false, ↓reduceIte, Bool.false_eq_true, Bool.false_and, List.nil_append] at hinv
                 first | exact hinv | (rw [List.append_assoc]; exact hinv)
               · first | omega | (dsimp only; omega)
               · refine ⟨?_, ?_, ?_, ?_, ?_, ?_⟩ <;> (simp [subE, lk, AV.low, C.low, LB.low, Problem.ds, TagRule.ds, Fld.ds, Sub.ds, Rec.ds] <;> fail))
            | (refine ⟨(k + 1, ver, out), ?_⟩
               refine ⟨⟨?_, ?_⟩, ?_, ?_⟩
               · omega
               · simp only [hg9, hc12, hc23, hc27, List.any_nil, Bool.not_false, Bool.and_true, Bool.and_self, if_true, if_false, ↓reduceIte, Bool.false_eq_true, Bool.false_and, List.nil_append] at hinv
                 first | exact hinv | (rw [List.append_assoc]; exact hinv)
               · first | omega | (dsimp only; omega)
               · refine ⟨?_, ?_, ?_, ?_, ?_, ?_⟩ <;> (simp [subE, lk, AV.low, C.low, LB.low, Problem.ds, TagRule.ds, Fld.ds, Sub.ds, Rec.ds] <;> fail))
      · try simp only [decide_eq_true_eq, decide_eq_false_iff_not, Bool.not_eq_true', Bool.not_eq_false', Int.not_lt, Int.not_le, ne_eq, Decidable.not_not, bne_iff_ne, beq_iff_eq, Bool.and_eq_true, Bool.or_eq_true, Bool.and_eq_false_iff, Bool.or_eq_false_iff, Bool.not_not, Ax.u8eq] at hc23
        refine AXc.exit ?_
        refine Ethen.e ?_
        clear hK20 K20
        refine Ethen.e ?_
        refine EinBlock.hit ?_
        refine Ethen.n ?_
        refine hK17 _ ?_
        clear hK17 K17
        refine AXc.seq fun K31 hK31 => ?_
        have hout : out = chkP l [] := by
          rw [drop_end (by omega), mustP, List.append_nil] at hinv; rw [hinv, chk_empty]
        subst hout
        refine AXc.freezeVar 3 rfl rfl ?_
        simp only [St.put, putE, U, del, lk, ev, cAV, lkG, rsAV, rvAV, ↓reduceIte, Nat.reduceEqDiff, Nat.reduceAdd, Nat.reduceMul, List.length_map, List.length_cons, List.length_nil, List.getElem_map, Int.toNat_natCast, List.cons_append, List.nil_append, List.set_cons_zero, List.set_cons_succ, splice, List.take_succ_cons, List.take_zero, List.drop_succ_cons, List.drop_zero, Nat.zero_add, Nat.add_zero, List.map_cons, List.map_nil, List.take_nil, List.drop_nil, List.append_nil, Problem.ds, TagRule.ds, Fld.ds, Sub.ds, Rec.ds, eq_self, decide_true, beq_self_eq_true, Bool.not_true, Bool.not_false]
        refine AXc.region' fun K32 hK32 => ?_
        refine AXl.qt rfl (by decide : (37:Nat) < 51) (Still.qt (s_move _)) ?_
        refine AXl.qt rfl (by decide : (38:Nat) < 51) (Still.qt (s_build _ _ plT_27_j zC_27_j rfl)) ?_
        refine AXl.nm_j0 ?_
        refine AXl.qt rfl (by decide : (39:Nat) < 51) (q_call (c15 l emptyR (okL_of ‹smallB l emptyR.fields = true›) okEmpty) (.cons (by first | exact ArgOk.d | exact ArgOk.bor rfl | exact ArgOk.agg rfl | exact ArgOk.agg (toDs_map _) | exact ArgOk.nil_bor | exact ArgOk.nil_lst | exact ArgOk.fn | exact ArgOk.ptr rfl rfl | exact ArgOk.aggn rfl (by repeat first | exact .nil | refine .cons (.refl _) ?_ | refine .cons (.nil _) ?_)) (.cons (by first | exact ArgOk.d | exact ArgOk.bor rfl | exact ArgOk.agg rfl | exact ArgOk.agg (toDs_map _) | exact ArgOk.nil_bor | exact ArgOk.nil_lst | exact ArgOk.fn | exact ArgOk.ptr rfl rfl | exact ArgOk.aggn rfl (by repeat first | exact .nil | refine .cons (.refl _) ?_ | refine .cons (.nil _) ?_)) .nil))) ?_
        refine AXl.qt rfl (by decide : (40:Nat) < 51) (Still.qt (s_move _)) ?_
        refine AXl.nm_j0 ?_
        refine AXl.qt rfl (by decide : (41:Nat) < 51) (q_call (c14 (chkP l []) (chkP l []) ?hs) (.cons (by first | exact ArgOk.d | exact ArgOk.bor rfl | exact ArgOk.agg rfl | exact ArgOk.agg (toDs_map _) | exact ArgOk.nil_bor | exact ArgOk.nil_lst | exact ArgOk.fn | exact ArgOk.ptr rfl rfl | exact ArgOk.aggn rfl (by repeat first | exact .nil | refine .cons (.refl _) ?_ | refine .cons (.nil _) ?_)) (.cons (by first | exact ArgOk.d | exact ArgOk.bor rfl | exact ArgOk.agg rfl | exact ArgOk.agg (toDs_map _) | exact ArgOk.nil_bor | exact ArgOk.nil_lst | exact ArgOk.fn | exact ArgOk.ptr rfl rfl | exact ArgOk.aggn rfl (by repeat first | exact .nil | refine .cons (.refl _) ?_ | refine .cons (.nil _) ?_)) .nil))) ?_
        case hs => exact Nat.le_trans (chkP_len (okL_of ‹smallB l emptyR.fields = true›) okEmpty) (by decide)
        refine AXl.nm_j0 ?_
        refine AXl.qt rfl (by decide : (42:Nat) < 51) (Still.qt (s_move _)) ?_
        refine AXl.qt_guard (by decide : (43:Nat) < 51) rfl (by kernel_rfl) (Still.qt (s_move _)) ?_
        refine AXl.qt_guard (by decide : (44:Nat) < 51) rfl (by kernel_rfl) (Still.qt (s_build _ _ plT_27_j zC_27_j rfl)) ?_
        refine AXl.nm_j0 ?_
        refine AXl.qt_guard (by decide : (45:Nat) < 51) rfl (by kernel_rfl) (q_call (c16 l emptyR (okL_of ‹smallB l emptyR.fields = true›) okEmpty) (.cons (by first | exact ArgOk.d | exact ArgOk.bor rfl | exact ArgOk.agg rfl | exact ArgOk.agg (toDs_map _) | exact ArgOk.nil_bor | exact ArgOk.nil_lst | exact ArgOk.fn | exact ArgOk.ptr rfl rfl | exact ArgOk.aggn rfl (by repeat first | exact .nil | refine .cons (.refl _) ?_ | refine .cons (.nil _) ?_)) (.cons (by first | exact ArgOk.d | exact ArgOk.bor rfl | exact ArgOk.agg rfl | exact ArgOk.agg (toDs_map _) | exact ArgOk.nil_bor | exact ArgOk.nil_lst | exact ArgOk.fn | exact ArgOk.ptr rfl rfl | exact ArgOk.aggn rfl (by repeat first | exact .nil | refine .cons (.refl _) ?_ | refine .cons (.nil _) ?_)) .nil))) ?_
        refine AXl.qt_guard (by decide : (46:Nat) < 51) rfl (by kernel_rfl) (Still.qt (s_move _)) ?_
        first
          | refine AXl.qt_guard (by decide : (47:Nat) < 51) rfl (by kernel_rfl) (Still.qt (s_len _ _ Tryd.underlying35 rfl)) ?_
          | refine AXl.qt_guard (by decide : (47:Nat) < 51) rfl (by kernel_rfl) (Still.qt (s_len_nil _ _ Tryd.underlying35 rfl)) ?_
        refine AXl.qt_guard (by decide : (48:Nat) < 51) rfl (by kernel_rfl) (Still.qt (s_icmp _ _ _ _ _ rfl rfl rfl)) ?_
        refine AXl.qt_guard (by decide : (49:Nat) < 51) rfl (by kernel_rfl) (Still.qt (s_bcmp _ _ _ _ _ Tryd.underlying4 rfl rfl rfl)) ?_
        refine AXl.qt rfl (by decide : (50:Nat) < 51) (Still.qt (s_pick_t _ _ _ rfl)) ?_
        refine AXl.qt rfl (by decide : (2:Nat) < 51) (Still.qt (s_assign _)) ?_
        refine AXl.nm_j0 ?_
        refine AXl.nil ?_
        refine hK32 _ ?_
        clear hK32 K32
        refine Ethen.n ?_
        refine hK31 _ ?_
        clear hK31 K31
        refine AXc.ret ?_
        refine Fin.ret rfl rfl ?_
        first
          | rfl
          | (by_cases h : chkP l [] = [] <;> simp [h, emptyR])
set_option maxHeartbeats 1600000 in
/-- The contract of library librarylaw09.RulesEach. -/
theorem c7 (l : List TagRule) (r : Rec) : AFn Tryd.prog [(0, (stdL.map TagRule.ds).flatten)] 7 [.c (.d (.lst 7 (l.map TagRule.ds))), .agg (r.ds.map C.d)] [.d (.bool true)] := by
  refine AFn.of_body0 (n := 46) (res := [.tmp 4]) Tryd.func7 (by kernel_rfl) rfl Tryd.ntmps7 (by rw [Tryd.results7]) (by simp) ?_
  simp only [envOf, Nat.reduceAdd]
  refine AXc.seq fun K1 hK1 => ?_
  refine AXc.region' fun K2 hK2 => ?_
  refine AXl.box rfl (by decide : (3:Nat) < 46) ?_
  refine AXl.qt rfl (by decide : (4:Nat) < 46) (Still.qt (s_assign _)) ?_
  refine AXl.nm_j0 ?_
  refine AXl.nil ?_
  refine hK2 _ ?_
  clear hK2 K2
  refine Ethen.n ?_
  refine hK1 _ ?_
  clear hK1 K1
  refine AXc.seq fun K3 hK3 => ?_
  refine AXc.seq fun K4 hK4 => ?_
  refine AXc.region' fun K5 hK5 => ?_
  refine AXl.qt rfl (by decide : (8:Nat) < 46) (q_call c8 .nil) ?_
  refine AXl.nm_j0 ?_
  refine AXl.qt rfl (by decide : (9:Nat) < 46) (Still.qt (s_not _ _ rfl)) ?_
  refine AXl.nm_j0 ?_
  refine AXl.nil ?_
  refine hK5 _ ?_
  clear hK5 K5
  refine Ethen.n ?_
  refine hK4 _ ?_
  clear hK4 K4
  refine AXc.cond_f rfl ?_
  refine AXc.skip ?_
  refine Ethen.n ?_
  refine hK3 _ ?_
  clear hK3 K3
  refine AXc.seq fun K6 hK6 => ?_
  refine AXc.seq fun K7 hK7 => ?_
  refine AXc.region' fun K8 hK8 => ?_
  refine AXl.qt rfl (by decide : (10:Nat) < 46) (Still.qt (s_move _)) ?_
  refine AXl.nm_j0 ?_
  first
    | refine AXl.qt rfl (by decide : (11:Nat) < 46) (Still.qt (s_loadN _ _ ldT_27_j rfl (by simp [Problem.ds, TagRule.ds, Fld.ds, Sub.ds, Rec.ds]))) ?_
    | refine AXl.qt rfl (by decide : (11:Nat) < 46) (Still.qt (s_loadN_row _ _ ldT_27_j rfl rfl (by first | rfl | exact List.getElem?_eq_getElem (by omega)) (by simp [Problem.ds, TagRule.ds, Fld.ds, Sub.ds, Rec.ds]))) ?_
  refine AXl.nm_j0 ?_
  refine AXl.qt rfl (by decide : (12:Nat) < 46) (q_call (c9 l r) (.cons (by first | exact ArgOk.d | exact ArgOk.bor rfl | exact ArgOk.agg rfl | exact ArgOk.agg (toDs_map _) | exact ArgOk.nil_bor | exact ArgOk.nil_lst | exact ArgOk.fn | exact ArgOk.ptr rfl rfl | exact ArgOk.aggn rfl (by repeat first | exact .nil | refine .cons (.refl _) ?_ | refine .cons (.nil _) ?_)) (.cons (by first | exact ArgOk.d | exact ArgOk.bor rfl | exact ArgOk.agg rfl | exact ArgOk.agg (toDs_map _) | exact ArgOk.nil_bor | exact ArgOk.nil_lst | exact ArgOk.fn | exact ArgOk.ptr rfl rfl | exact ArgOk.aggn rfl (by repeat first | exact .nil | refine .cons (.refl _) ?_ | refine .cons (.nil _) ?_)) .nil))) ?_
  refine AXl.qt rfl (by decide : (13:Nat) < 46) (Still.qt (s_not _ _ rfl)) ?_
  refine AXl.qt rfl (by decide : (14:Nat) < 46) (Still.qt (s_move _)) ?_
  refine AXl.nm_j0 ?_
  refine AXl.split 14 _ rfl (fun hg9 => ?_) (fun hg9 => ?_)
  · try simp only [decide_eq_true_eq, decide_eq_false_iff_not, Bool.not_eq_true', Bool.not_eq_false', Int.not_lt, Int.not_le, ne_eq, Decidable.not_not, bne_iff_ne, beq_iff_eq, Bool.and_eq_true, Bool.or_eq_true, Bool.and_eq_false_iff, Bool.or_eq_false_iff, Bool.not_not, Ax.u8eq] at hg9
    simp only [del, ↓reduceIte, Nat.reduceEqDiff]
    refine AXl.skip_guard (by decide : (15:Nat) < 46) rfl (by kernel_rfl) ?_
    refine AXl.skip_guard (by decide : (16:Nat) < 46) rfl (by kernel_rfl) ?_
    refine AXl.skip_guard (by decide : (17:Nat) < 46) rfl (by kernel_rfl) ?_
    refine AXl.qt rfl (by decide : (18:Nat) < 46) (Still.qt (s_pick_t _ _ _ rfl)) ?_
    refine AXl.nm_j0 ?_
    refine AXl.nil ?_
    refine hK8 _ ?_
    clear hK8 K8
    refine Ethen.n ?_
    refine hK7 _ ?_
    clear hK7 K7
    refine AXc.cond_t rfl ?_
    refine AXc.seq fun K10 hK10 => ?_
    refine AXc.region' fun K11 hK11 => ?_
    refine AXl.qt rfl (by decide : (4:Nat) < 46) (Still.qt (s_assign _)) ?_
    refine AXl.nm_j0 ?_
    refine AXl.nil ?_
    refine hK11 _ ?_
    clear hK11 K11
    refine Ethen.n ?_
    refine hK10 _ ?_
    clear hK10 K10
    refine AXc.ret ?_
    refine Ethen.r ?_
    clear hK6 K6
    refine Fin.ret rfl rfl ?_
    first
      | rfl
      | exact absurd hlaw hg9
  · try simp only [decide_eq_true_eq, decide_eq_false_iff_not, Bool.not_eq_true', Bool.not_eq_false', Int.not_lt, Int.not_le, ne_eq, Decidable.not_not, bne_iff_ne, beq_iff_eq, Bool.and_eq_true, Bool.or_eq_true, Bool.and_eq_false_iff, Bool.or_eq_false_iff, Bool.not_not, Ax.u8eq] at hg9
    simp only [del, ↓reduceIte, Nat.reduceEqDiff]
    refine AXl.qt_guard (by decide : (15:Nat) < 46) rfl (by kernel_rfl) (Still.qt (s_move _)) ?_
    refine AXl.nm_j0 ?_
    refine AXl.qt_guard (by decide : (16:Nat) < 46) rfl (by kernel_rfl) (q_call (c12 l (okL_of ‹smallB l r.fields = true›)) (.cons (by first | exact ArgOk.d | exact ArgOk.bor rfl | exact ArgOk.agg rfl | exact ArgOk.agg (toDs_map _) | exact ArgOk.nil_bor | exact ArgOk.nil_lst | exact ArgOk.fn | exact ArgOk.ptr rfl rfl | exact ArgOk.aggn rfl (by repeat first | exact .nil | refine .cons (.refl _) ?_ | refine .cons (.nil _) ?_)) .nil)) ?_
    refine AXl.qt_guard (by decide : (17:Nat) < 46) rfl (by kernel_rfl) (Still.qt (s_icmp _ _ _ _ _ rfl rfl rfl)) ?_
    refine AXl.qt rfl (by decide : (18:Nat) < 46) (Still.qt (s_pick_f _ _ _ rfl)) ?_
    refine AXl.nm_j0 ?_
    refine AXl.nil ?_
    refine hK8 _ ?_
    clear hK8 K8
    refine Ethen.n ?_
    refine hK7 _ ?_
    clear hK7 K7
    refine AXc.cond rfl (fun hc12 => ?_) (fun hc12 => ?_)
    · try simp only [decide_eq_true_eq, decide_eq_false_iff_not, Bool.not_eq_true', Bool.not_eq_false', Int.not_lt, Int.not_le, ne_eq, Decidable.not_not, bne_iff_ne, beq_iff_eq, Bool.and_eq_true, Bool.or_eq_true, Bool.and_eq_false_iff, Bool.or_eq_false_iff, Bool.not_not, Ax.u8eq] at hc12
      refine AXc.seq fun K13 hK13 => ?_
      refine AXc.region' fun K14 hK14 => ?_
      refine AXl.qt rfl (by decide : (4:Nat) < 46) (Still.qt (s_assign _)) ?_
      refine AXl.nm_j0 ?_
      refine AXl.nil ?_
      refine hK14 _ ?_
      clear hK14 K14
      refine Ethen.n ?_
      refine hK13 _ ?_
      clear hK13 K13
      refine AXc.ret ?_
      refine Ethen.r ?_
      clear hK6 K6
      refine Fin.ret rfl rfl ?_
      first
        | rfl
        | exact absurd hlaw hc12
    · try simp only [decide_eq_true_eq, decide_eq_false_iff_not, Bool.not_eq_true', Bool.not_eq_false', Int.not_lt, Int.not_le, ne_eq, Decidable.not_not, bne_iff_ne, beq_iff_eq, Bool.and_eq_true, Bool.or_eq_true, Bool.and_eq_false_iff, Bool.or_eq_false_iff, Bool.not_not, Ax.u8eq] at hc12
      refine AXc.skip ?_
      refine Ethen.n ?_
      refine hK6 _ ?_
      clear hK6 K6
      refine AXc.seq fun K15 hK15 => ?_
      refine AXc.region' fun K16 hK16 => ?_
      refine AXl.qt rfl (by decide : (19:Nat) < 46) (Still.qt (s_move _)) ?_
      refine AXl.nm_j0 ?_
      first
        | refine AXl.qt rfl (by decide : (20:Nat) < 46) (Still.qt (s_loadN _ _ ldT_27_j rfl (by simp [Problem.ds, TagRule.ds, Fld.ds, Sub.ds, Rec.ds]))) ?_
        | refine AXl.qt rfl (by decide : (20:Nat) < 46) (Still.qt (s_loadN_row _ _ ldT_27_j rfl rfl (by first | rfl | exact List.getElem?_eq_getElem (by omega)) (by simp [Problem.ds, TagRule.ds, Fld.ds, Sub.ds, Rec.ds]))) ?_
      refine AXl.nm_j0 ?_
      refine AXl.qt rfl (by decide : (21:Nat) < 46) (q_call (c15 l r (okL_of ‹smallB l r.fields = true›) (okS_of ‹smallB l r.fields = true›)) (.cons (by first | exact ArgOk.d | exact ArgOk.bor rfl | exact ArgOk.agg rfl | exact ArgOk.agg (toDs_map _) | exact ArgOk.nil_bor | exact ArgOk.nil_lst | exact ArgOk.fn | exact ArgOk.ptr rfl rfl | exact ArgOk.aggn rfl (by repeat first | exact .nil | refine .cons (.refl _) ?_ | refine .cons (.nil _) ?_)) (.cons (by first | exact ArgOk.d | exact ArgOk.bor rfl | exact ArgOk.agg rfl | exact ArgOk.agg (toDs_map _) | exact ArgOk.nil_bor | exact ArgOk.nil_lst | exact ArgOk.fn | exact ArgOk.ptr rfl rfl | exact ArgOk.aggn rfl (by repeat first | exact .nil | refine .cons (.refl _) ?_ | refine .cons (.nil _) ?_)) .nil))) ?_
      refine AXl.qt rfl (by decide : (5:Nat) < 46) (Still.qt (s_assign _)) ?_
      refine AXl.nm_j0 ?_
      refine AXl.nil ?_
      refine hK16 _ ?_
      clear hK16 K16
      refine Ethen.n ?_
      refine hK15 _ ?_
      clear hK15 K15
      refine AXc.seq fun K17 hK17 => ?_
      refine AXc.seq fun K18 hK18 => ?_
      refine AXc.region' fun K19 hK19 => ?_
      refine AXl.qt rfl (by decide : (6:Nat) < 46) (Still.qt (s_assign _)) ?_
      refine AXl.nm_j0 ?_
      refine AXl.nil ?_
      refine hK19 _ ?_
      clear hK19 K19
      refine Ethen.n ?_
      refine hK18 _ ?_
      clear hK18 K18
      refine AXc.block ?_
      have hf64 := (okS_of ‹smallB l r.fields = true›).len
      refine AXc.loop (S := Nat) (fun k => ⟨[(0, .c (.d (.lst 7 (l.map TagRule.ds)))), (3, .c (.loc 0 0)), (5, .c (.d (.lst 4 ((chkP l r.fields).map Problem.ds)))), (6, .c (.d (.int .i64 k)))], [.box 27 (r.ds.map C.d)]⟩) (fun k => k ≤ r.fields.length) (fun k => r.fields.length - k) 0 (by omega) (by refine ⟨?_, ?_, ?_, ?_, ?_, ?_⟩ <;> (simp [subE, lk, AV.low, C.low, LB.low, Problem.ds, TagRule.ds, Fld.ds, Sub.ds, Rec.ds] <;> fail)) ?_
      intro k hk0
      try simp only [Problem.ds, TagRule.ds, Fld.ds, Sub.ds, Rec.ds, eq_self, decide_true, beq_self_eq_true, Bool.not_true, Bool.not_false, List.map_cons, List.map_nil]
      refine AXc.seq fun K20 hK20 => ?_
      refine AXc.seq fun K21 hK21 => ?_
      refine AXc.region' fun K22 hK22 => ?_
      refine AXl.qt rfl (by decide : (22:Nat) < 46) (Still.qt (s_move _)) ?_
      first
        | refine AXl.qt rfl (by decide : (23:Nat) < 46) (Still.qt (s_field_loc _ _ _ fdT_27_4_j rfl)) ?_
        | refine AXl.qt rfl (by decide : (23:Nat) < 46) (Still.qt (s_field_ptr _ _ _ fdT_27_4_j rfl)) ?_
        | refine AXl.qt rfl (by decide : (23:Nat) < 46) (Still.qt (s_field_row _ _ _ fdT_27_4_j rfl rfl)) ?_
      first
        | refine AXl.qt rfl (by decide : (24:Nat) < 46) (Still.qt (s_load1 _ _ ldT_25_j rfl)) ?_
        | refine AXl.qt rfl (by decide : (24:Nat) < 46) (Still.qt (s_load1_row _ _ ldT_25_j rfl rfl (by first | rfl | exact List.getElem?_eq_getElem (by omega)) rfl)) ?_
      first
        | refine AXl.qt rfl (by decide : (25:Nat) < 46) (Still.qt (s_len _ _ Tryd.underlying25 rfl)) ?_
        | refine AXl.qt rfl (by decide : (25:Nat) < 46) (Still.qt (s_len_nil _ _ Tryd.underlying25 rfl)) ?_
      refine AXl.qt rfl (by decide : (26:Nat) < 46) (Still.qt (s_icmp _ _ _ _ _ rfl rfl rfl)) ?_
      refine AXl.nm_j0 ?_
      refine AXl.nil ?_
      refine hK22 _ ?_
      clear hK22 K22
      refine Ethen.n ?_
      refine hK21 _ ?_
      clear hK21 K21
      refine AXc.cond rfl (fun hc23 => ?_) (fun hc23 => ?_)
      · try simp only [decide_eq_true_eq, decide_eq_false_iff_not, Bool.not_eq_true', Bool.not_eq_false', Int.not_lt, Int.not_le, ne_eq, Decidable.not_not, bne_iff_ne, beq_iff_eq, Bool.and_eq_true, Bool.or_eq_true, Bool.and_eq_false_iff, Bool.or_eq_false_iff, Bool.not_not, Ax.u8eq] at hc23
        have hk : k < r.fields.length := by omega
        have hone : OkS [r.fields[k]] := ⟨by simp, by intro x hx; rw [List.mem_singleton] at hx; subst hx; exact (okS_of ‹smallB l r.fields = true›).all _ (List.getElem_mem _)⟩
        have hlaw := own_law l r.fields hk
        refine AXc.skip ?_
        refine Ethen.n ?_
        refine hK20 _ ?_
        clear hK20 K20
        refine AXc.seq fun K24 hK24 => ?_
        refine AXc.block ?_
        refine AXc.seq fun K25 hK25 => ?_
        refine AXc.region' fun K26 hK26 => ?_
        first
          | refine AXl.qt rfl (by decide : (29:Nat) < 46) (Still.qt (s_loadN _ _ ldT_27_j rfl (by simp [Problem.ds, TagRule.ds, Fld.ds, Sub.ds, Rec.ds]))) ?_
          | refine AXl.qt rfl (by decide : (29:Nat) < 46) (Still.qt (s_loadN_row _ _ ldT_27_j rfl rfl (by first | rfl | exact List.getElem?_eq_getElem (by omega)) (by simp [Problem.ds, TagRule.ds, Fld.ds, Sub.ds, Rec.ds]))) ?_
        refine AXl.alloc zC_27_j (by decide : (7:Nat) < 46) ?_
        refine AXl.nm_j0 ?_
        first
          | refine AXl.store rfl rfl rfl sz_27_j (by simp [Problem.ds, TagRule.ds, Fld.ds, Sub.ds, Rec.ds]) rfl ?_
          | refine AXl.store_row rfl rfl (by first | rfl | exact List.getElem?_eq_getElem (by omega)) rfl sz_27_j (by simp [Problem.ds, TagRule.ds, Fld.ds, Sub.ds, Rec.ds]) rfl ?_
        refine AXl.nm_j0 ?_
        refine AXl.nil ?_
        refine hK26 _ ?_
        clear hK26 K26
        refine Ethen.n ?_
        refine hK25 _ ?_
        clear hK25 K25
        refine AXc.seq fun K27 hK27 => ?_
        refine AXc.region' fun K28 hK28 => ?_
        first
          | refine AXl.qt rfl (by decide : (30:Nat) < 46) (Still.qt (s_field_loc _ _ _ fdT_27_4_j rfl)) ?_
          | refine AXl.qt rfl (by decide : (30:Nat) < 46) (Still.qt (s_field_ptr _ _ _ fdT_27_4_j rfl)) ?_
          | refine AXl.qt rfl (by decide : (30:Nat) < 46) (Still.qt (s_field_row _ _ _ fdT_27_4_j rfl rfl)) ?_
        first
          | refine AXl.qt rfl (by decide : (31:Nat) < 46) (Still.qt (s_load1 _ _ ldT_25_j rfl)) ?_
          | refine AXl.qt rfl (by decide : (31:Nat) < 46) (Still.qt (s_load1_row _ _ ldT_25_j rfl rfl (by first | rfl | exact List.getElem?_eq_getElem (by omega)) rfl)) ?_
        refine AXl.qt rfl (by decide : (32:Nat) < 46) (Still.qt (s_move _)) ?_
        first
          | refine AXl.qt rfl (by decide : (33:Nat) < 46) (Still.qt (s_index _ _ _ slT_25_j (.inl rfl) rfl rfl (by first | omega | (simp only [List.length_map, List.length_cons, List.length_nil, List.length_append, List.length_take, List.length_drop]; omega)) (List.getElem?_eq_getElem (by first | omega | (simp only [List.length_map, List.length_cons, List.length_nil, List.length_append, List.length_take, List.length_drop]; omega))))) ?_
          | refine AXl.qt rfl (by decide : (33:Nat) < 46) (Still.qt (s_index _ _ _ slT_25_j (.inr rfl) rfl rfl (by first | omega | (simp only [List.length_map, List.length_cons, List.length_nil, List.length_append, List.length_take, List.length_drop]; omega)) (List.getElem?_eq_getElem (by first | omega | (simp only [List.length_map, List.length_cons, List.length_nil, List.length_append, List.length_take, List.length_drop]; omega))))) ?_
          | refine AXl.qt rfl (by decide : (33:Nat) < 46) (Still.qt (s_index_own _ _ _ slT_25_j rfl rfl rfl rfl (by first | omega | (simp only [List.length_map, List.length_cons, List.length_nil, List.length_append, List.length_take, List.length_drop]; omega)) (by first | omega | (simp only [List.length_map, List.length_cons, List.length_nil, List.length_append, List.length_take, List.length_drop]; omega)))) ?_
        refine AXl.nm_j0 ?_
        first
          | refine AXl.qt rfl (by decide : (34:Nat) < 46) (Still.qt (s_loadN _ _ ldT_45_j rfl (by simp [Problem.ds, TagRule.ds, Fld.ds, Sub.ds, Rec.ds]))) ?_
          | refine AXl.qt rfl (by decide : (34:Nat) < 46) (Still.qt (s_loadN_row _ _ ldT_45_j rfl rfl (by first | rfl | exact List.getElem?_eq_getElem (by omega)) (by simp [Problem.ds, TagRule.ds, Fld.ds, Sub.ds, Rec.ds]))) ?_
        refine AXl.qt rfl (by decide : (35:Nat) < 46) (q_buildSlice _ _ _ apT_25_j rfl rfl (by decide)) ?_
        first
          | refine AXl.qt rfl (by decide : (36:Nat) < 46) (Still.qt (s_field_loc _ _ _ fdT_27_4_j rfl)) ?_
          | refine AXl.qt rfl (by decide : (36:Nat) < 46) (Still.qt (s_field_ptr _ _ _ fdT_27_4_j rfl)) ?_
          | refine AXl.qt rfl (by decide : (36:Nat) < 46) (Still.qt (s_field_row _ _ _ fdT_27_4_j rfl rfl)) ?_
        refine AXl.nm_j0 ?_
        first
          | refine AXl.store rfl rfl rfl sz_25_j (by simp [Problem.ds, TagRule.ds, Fld.ds, Sub.ds, Rec.ds]) rfl ?_
          | refine AXl.store_row rfl rfl (by first | rfl | exact List.getElem?_eq_getElem (by omega)) rfl sz_25_j (by simp [Problem.ds, TagRule.ds, Fld.ds, Sub.ds, Rec.ds]) rfl ?_
        refine AXl.nm_j0 ?_
        refine AXl.nil ?_
        refine hK28 _ ?_
        clear hK28 K28
        refine Ethen.n ?_
        refine hK27 _ ?_
        clear hK27 K27
        refine AXc.seq fun K29 hK29 => ?_
        refine AXc.draw' mixed_j 9 (by kernel_rfl) fun K30 hK30 => ?_
        simp only [List.take_succ_cons, List.take_zero, List.take_nil, List.drop_succ_cons, List.drop_zero, List.drop_nil]
        refine AXd.op rfl (Still.qt (s_move _)) ?_
        refine AXd.op rfl (Still.qt (s_move _)) ?_
        refine AXd.nm_j0 ?_
        refine AXd.op rfl (q_call (c19 (chkP l r.fields) (k : Int) ?hs) (.cons (by first | exact ArgOk.d | exact ArgOk.bor rfl | exact ArgOk.agg rfl | exact ArgOk.agg (toDs_map _) | exact ArgOk.nil_bor | exact ArgOk.nil_lst | exact ArgOk.fn | exact ArgOk.ptr rfl rfl | exact ArgOk.aggn rfl (by repeat first | exact .nil | refine .cons (.refl _) ?_ | refine .cons (.nil _) ?_)) (.cons (by first | exact ArgOk.d | exact ArgOk.bor rfl | exact ArgOk.agg rfl | exact ArgOk.agg (toDs_map _) | exact ArgOk.nil_bor | exact ArgOk.nil_lst | exact ArgOk.fn | exact ArgOk.ptr rfl rfl | exact ArgOk.aggn rfl (by repeat first | exact .nil | refine .cons (.refl _) ?_ | refine .cons (.nil _) ?_)) .nil))) ?_
        case hs => exact Nat.le_trans (chkP_len (okL_of ‹smallB l r.fields = true›) (okS_of ‹smallB l r.fields = true›)) (by decide)
        refine AXd.op rfl (Still.qt (s_move _)) ?_
        refine AXd.nm_j0 ?_
        first
          | refine AXd.op rfl (Still.qt (s_loadN _ _ ldT_27_j rfl (by simp [Problem.ds, TagRule.ds, Fld.ds, Sub.ds, Rec.ds]))) ?_
          | refine AXd.op rfl (Still.qt (s_loadN_row _ _ ldT_27_j rfl rfl (by first | rfl | exact List.getElem?_eq_getElem (by omega)) (by simp [Problem.ds, TagRule.ds, Fld.ds, Sub.ds, Rec.ds]))) ?_
        refine AXd.nm_j0 ?_
        refine AXd.op rfl (q_call (c15 l ({ r with fields := [r.fields[k]] } : Rec) (okL_of ‹smallB l r.fields = true›) hone) (.cons (by first | exact ArgOk.d | exact ArgOk.bor rfl | exact ArgOk.agg rfl | exact ArgOk.agg (toDs_map _) | exact ArgOk.nil_bor | exact ArgOk.nil_lst | exact ArgOk.fn | exact ArgOk.ptr rfl rfl | exact ArgOk.aggn rfl (by repeat first | exact .nil | refine .cons (.refl _) ?_ | refine .cons (.nil _) ?_)) (.cons (by first | exact ArgOk.d | exact ArgOk.bor rfl | exact ArgOk.agg rfl | exact ArgOk.agg (toDs_map _) | exact ArgOk.nil_bor | exact ArgOk.nil_lst | exact ArgOk.fn | exact ArgOk.ptr rfl rfl | exact ArgOk.aggn rfl (by repeat first | exact .nil | refine .cons (.refl _) ?_ | refine .cons (.nil _) ?_)) .nil))) ?_
        refine AXd.nm_j0 ?_
        refine AXd.op rfl (q_call (c19 (chkP l [r.fields[k]]) 0 ?hs) (.cons (by first | exact ArgOk.d | exact ArgOk.bor rfl | exact ArgOk.agg rfl | exact ArgOk.agg (toDs_map _) | exact ArgOk.nil_bor | exact ArgOk.nil_lst | exact ArgOk.fn | exact ArgOk.ptr rfl rfl | exact ArgOk.aggn rfl (by repeat first | exact .nil | refine .cons (.refl _) ?_ | refine .cons (.nil _) ?_)) (.cons (by first | exact ArgOk.d | exact ArgOk.bor rfl | exact ArgOk.agg rfl | exact ArgOk.agg (toDs_map _) | exact ArgOk.nil_bor | exact ArgOk.nil_lst | exact ArgOk.fn | exact ArgOk.ptr rfl rfl | exact ArgOk.aggn rfl (by repeat first | exact .nil | refine .cons (.refl _) ?_ | refine .cons (.nil _) ?_)) .nil))) ?_
        case hs => exact Nat.le_trans (chkP_len (okL_of ‹smallB l r.fields = true›) hone) (by decide)
        refine AXd.nm_j0 ?_
        refine AXd.op rfl (q_call (c14 _ _ ?hs) (.cons (by first | exact ArgOk.d | exact ArgOk.bor rfl | exact ArgOk.agg rfl | exact ArgOk.agg (toDs_map _) | exact ArgOk.nil_bor | exact ArgOk.nil_lst | exact ArgOk.fn | exact ArgOk.ptr rfl rfl | exact ArgOk.aggn rfl (by repeat first | exact .nil | refine .cons (.refl _) ?_ | refine .cons (.nil _) ?_)) (.cons (by first | exact ArgOk.d | exact ArgOk.bor rfl | exact ArgOk.agg rfl | exact ArgOk.agg (toDs_map _) | exact ArgOk.nil_bor | exact ArgOk.nil_lst | exact ArgOk.fn | exact ArgOk.ptr rfl rfl | exact ArgOk.aggn rfl (by repeat first | exact .nil | refine .cons (.refl _) ?_ | refine .cons (.nil _) ?_)) .nil))) ?_
        case hs => exact Nat.le_trans (own_len _ _) (Nat.le_trans (chkP_len (okL_of ‹smallB l r.fields = true›) (okS_of ‹smallB l r.fields = true›)) (by decide))
        refine AXd.op rfl (Still.qt (s_not _ _ rfl)) ?_
        refine AXd.nm_j0 ?_
        refine AXd.nil ?_
        refine AXl.nil ?_
        refine hK30 _ ?_
        clear hK30 K30
        refine Ethen.n ?_
        refine hK29 _ ?_
        clear hK29 K29
        refine AXc.cond rfl (fun hc31 => ?_) (fun hc31 => ?_)
        · try simp only [decide_eq_true_eq, decide_eq_false_iff_not, Bool.not_eq_true', Bool.not_eq_false', Int.not_lt, Int.not_le, ne_eq, Decidable.not_not, bne_iff_ne, beq_iff_eq, Bool.and_eq_true, Bool.or_eq_true, Bool.and_eq_false_iff, Bool.or_eq_false_iff, Bool.not_not, Ax.u8eq] at hc31
          refine AXc.seq fun K32 hK32 => ?_
          refine AXc.region' fun K33 hK33 => ?_
          refine AXl.qt rfl (by decide : (4:Nat) < 46) (Still.qt (s_assign _)) ?_
          refine AXl.nm_j0 ?_
          refine AXl.nil ?_
          refine hK33 _ ?_
          clear hK33 K33
          refine Ethen.n ?_
          refine hK32 _ ?_
          clear hK32 K32
          refine AXc.ret ?_
          refine EinBlock.r ?_
          refine Ethen.r ?_
          clear hK24 K24
          refine Ethen.r ?_
          refine EinBlock.r ?_
          refine Ethen.r ?_
          clear hK17 K17
          refine Fin.ret rfl rfl ?_
          first
            | rfl
            | exact absurd hlaw hc31
        · try simp only [decide_eq_true_eq, decide_eq_false_iff_not, Bool.not_eq_true', Bool.not_eq_false', Int.not_lt, Int.not_le, ne_eq, Decidable.not_not, bne_iff_ne, beq_iff_eq, Bool.and_eq_true, Bool.or_eq_true, Bool.and_eq_false_iff, Bool.or_eq_false_iff, Bool.not_not, Ax.u8eq] at hc31
          refine AXc.skip ?_
          refine EinBlock.n ?_
          refine Ethen.n ?_
          refine hK24 _ ?_
          clear hK24 K24
          refine AXc.region' fun K34 hK34 => ?_
          refine AXl.qt rfl (by decide : (27:Nat) < 46) (Still.qt (s_move _)) ?_
          refine AXl.qt rfl (by decide : (28:Nat) < 46) (Still.qt (s_iar _ _ _ _ _ rfl rfl rfl (IntWalk.i64_in _ ⟨(by first | omega | (simp only [List.length_map, List.length_cons, List.length_nil, List.length_append, List.length_take, List.length_drop]; omega)), (by first | omega | (simp only [List.length_map, List.length_cons, List.length_nil, List.length_append, List.length_take, List.length_drop]; omega))⟩))) ?_
          refine AXl.qt rfl (by decide : (6:Nat) < 46) (Still.qt (s_assign _)) ?_
          refine AXl.nm_j0 ?_
          refine AXl.nil ?_
          refine hK34 _ ?_
          clear hK34 K34
          refine Ethen.n ?_
          clear hK17 K17
          refine ⟨k + 1, by omega, by omega, (by refine ⟨?_, ?_, ?_, ?_, ?_, ?_⟩ <;> (simp [subE, lk, AV.low, C.low, LB.low, Problem.ds, TagRule.ds, Fld.ds, Sub.ds, Rec.ds] <;> fail))⟩
      · try simp only [decide_eq_true_eq, decide_eq_false_iff_not, Bool.not_eq_true', Bool.not_eq_false', Int.not_lt, Int.not_le, ne_eq, Decidable.not_not, bne_iff_ne, beq_iff_eq, Bool.and_eq_true, Bool.or_eq_true, Bool.and_eq_false_iff, Bool.or_eq_false_iff, Bool.not_not, Ax.u8eq] at hc23
        refine AXc.exit ?_
        refine Ethen.e ?_
        clear hK20 K20
        refine Ethen.e ?_
        refine EinBlock.hit ?_
        refine Ethen.n ?_
        refine hK17 _ ?_
        clear hK17 K17
        refine AXc.seq fun K35 hK35 => ?_
        refine AXc.region' fun K36 hK36 => ?_
        refine AXl.qt rfl (by decide : (4:Nat) < 46) (Still.qt (s_assign _)) ?_
        refine AXl.nm_j0 ?_
        refine AXl.nil ?_
        refine hK36 _ ?_
        clear hK36 K36
        refine Ethen.n ?_
        refine hK35 _ ?_
        clear hK35 K35
        refine AXc.ret ?_
        refine Fin.ret rfl rfl ?_
        first
          | rfl
          | exact absurd hlaw hc23
end Go.Proofs
