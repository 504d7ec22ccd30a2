/- Part of a proof about this program; no condition of its own. -/
import Derived.Test.YtjaooadhjmlhnaaDoorRDf
import Derived.Test.YtjaooadhjmlhnaaDoorRWg
import Derived.Test.YtjaooadhjmlhnaaDoorRWi
import Derived.Test.YtjaooadhjmlhnaaDoorProg
set_option linter.all false
namespace Go.Proofs
open Go Go.Ax Go.Rl
theorem zC_29_h : zeroC Tryd.prog 29 = some [.d (.str []), .d (.bool false), .d (.bool false), .d (.str []), .d (.str []), .d (.str []), .d (.int .i64 0)] := by kernel_rfl
theorem sz_29_h : (Tryd.prog.info? 29).map (·.size) = some 7 := by kernel_rfl
theorem plT_41_h : plT Tryd.prog 41 = some [(0, 1), (1, 1), (2, 1), (3, 1)] := by kernel_rfl
theorem zC_41_h : zeroC Tryd.prog 41 = some [.d (.int .i64 0), .d (.int .i64 0), .d (.str []), .d (.int .u8 0)] := by kernel_rfl
theorem apT_35_h : apT Tryd.prog 35 = some (41, 4, 40) := by kernel_rfl
theorem fdT_29_2_h : fdT Tryd.prog 29 2 = some 2 := by kernel_rfl
theorem ldT_4_h : ldT Tryd.prog 4 = some none := by kernel_rfl
theorem fdT_29_1_h : fdT Tryd.prog 29 1 = some 1 := by kernel_rfl
theorem fdT_29_3_h : fdT Tryd.prog 29 3 = some 3 := by kernel_rfl
theorem ldT_9_h : ldT Tryd.prog 9 = some none := by kernel_rfl
theorem plT_27_h : plT Tryd.prog 27 = some [(0, 1), (1, 1), (2, 1), (3, 1), (4, 1)] := by kernel_rfl
theorem zC_27_h : zeroC Tryd.prog 27 = some [.d (.int .i64 0), .d (.int .i64 0), .d (.int .i64 0), .d (.str []), .d (.raw (.slice none 0 0))] := by kernel_rfl
theorem AXl.nm_h0 {P : Program} {pm : Pm} {ops : Array Oper} {rest : List Oper} {st st' : St} {K : St → Prop} (hk : AXl P pm ops rest st' K) (he : st = st' := by first | (simp only [St.put, putE, U, del, lk, ev, cAV, lkG, rsAV, rvAV, ↓reduceIte, Nat.reduceEqDiff, Nat.reduceAdd, Nat.reduceMul, List.length_map, List.length_cons, List.length_nil, List.getElem_map, Int.toNat_natCast, List.cons_append, List.nil_append, List.set_cons_zero, List.set_cons_succ, splice, List.take_succ_cons, List.take_zero, List.drop_succ_cons, List.drop_zero, Nat.zero_add, Nat.add_zero, List.map_cons, List.map_nil, List.take_nil, List.drop_nil, List.append_nil, Problem.ds, TagRule.ds, Fld.ds, Sub.ds, Rec.ds, al1, al2, al3, al4, al5, decide_true, Bool.not_false, Bool.not_true, al6, al7, al8]; done) | (simp only [St.put, putE, U, del, lk, ev, cAV, lkG, rsAV, rvAV, ↓reduceIte, Nat.reduceEqDiff, Nat.reduceAdd, Nat.reduceMul, List.length_map, List.length_cons, List.length_nil, List.getElem_map, Int.toNat_natCast, List.cons_append, List.nil_append, List.set_cons_zero, List.set_cons_succ, splice, List.take_succ_cons, List.take_zero, List.drop_succ_cons, List.drop_zero, Nat.zero_add, Nat.add_zero, List.map_cons, List.map_nil, List.take_nil, List.drop_nil, List.append_nil, Problem.ds, TagRule.ds, Fld.ds, Sub.ds, Rec.ds, al1, al2, al3, al4, al5, decide_true, Bool.not_false, Bool.not_true, al6, al7, al8]; rfl) | rfl) : AXl P pm ops rest st K := he ▸ hk
theorem AXd.nm_h0 {P : Program} {pm : Pm} {h : List LB} {ops : Array Oper} {pre : List Oper} {ρ ρ' : List (Nat × AV)} {Kd : List (Nat × AV) → Prop} (hk : AXd P pm h ops pre ρ' Kd) (he : ρ = ρ' := by first | (simp only [St.put, putE, U, del, lk, ev, cAV, lkG, rsAV, rvAV, ↓reduceIte, Nat.reduceEqDiff, Nat.reduceAdd, Nat.reduceMul, List.length_map, List.length_cons, List.length_nil, List.getElem_map, Int.toNat_natCast, List.cons_append, List.nil_append, List.set_cons_zero, List.set_cons_succ, splice, List.take_succ_cons, List.take_zero, List.drop_succ_cons, List.drop_zero, Nat.zero_add, Nat.add_zero, List.map_cons, List.map_nil, List.take_nil, List.drop_nil, List.append_nil, Problem.ds, TagRule.ds, Fld.ds, Sub.ds, Rec.ds, al1, al2, al3, al4, al5, decide_true, Bool.not_false, Bool.not_true, al6, al7, al8]; done) | (simp only [St.put, putE, U, del, lk, ev, cAV, lkG, rsAV, rvAV, ↓reduceIte, Nat.reduceEqDiff, Nat.reduceAdd, Nat.reduceMul, List.length_map, List.length_cons, List.length_nil, List.getElem_map, Int.toNat_natCast, List.cons_append, List.nil_append, List.set_cons_zero, List.set_cons_succ, splice, List.take_succ_cons, List.take_zero, List.drop_succ_cons, List.drop_zero, Nat.zero_add, Nat.add_zero, List.map_cons, List.map_nil, List.take_nil, List.drop_nil, List.append_nil, Problem.ds, TagRule.ds, Fld.ds, Sub.ds, Rec.ds, al1, al2, al3, al4, al5, decide_true, Bool.not_false, Bool.not_true, al6, al7, al8]; rfl) | rfl) : AXd P pm h ops pre ρ Kd := he ▸ hk
set_option maxHeartbeats 1600000 in
/-- The contract of library librarylaw09.alive. -/
theorem c8  : AFn Tryd.prog [(0, (stdL.map TagRule.ds).flatten)] 8 [] [.d (.bool true)] := by
  refine AFn.of_body0 (n := 61) (res := [.tmp 0]) Tryd.func8 (by kernel_rfl) rfl Tryd.ntmps8 (by rw [Tryd.results8]) (by simp) ?_
  simp only [envOf, Nat.reduceAdd]
  refine AXc.seq fun K1 hK1 => ?_
  refine AXc.region' fun K2 hK2 => ?_
  refine AXl.qt rfl (by decide : (0:Nat) < 61) (Still.qt (s_assign _)) ?_
  refine AXl.nm_h0 ?_
  refine AXl.nil ?_
  refine hK2 _ ?_
  clear hK2 K2
  refine Ethen.n ?_
  refine hK1 _ ?_
  clear hK1 K1
  refine AXc.seq fun K3 hK3 => ?_
  refine AXc.region' fun K4 hK4 => ?_
  refine AXl.qt rfl (by decide : (7:Nat) < 61) (q_call c18 .nil) ?_
  refine AXl.qt rfl (by decide : (1:Nat) < 61) (Still.qt (s_assign _)) ?_
  refine AXl.nm_h0 ?_
  refine AXl.nil ?_
  refine hK4 _ ?_
  clear hK4 K4
  refine Ethen.n ?_
  refine hK3 _ ?_
  clear hK3 K3
  refine AXc.seq fun K5 hK5 => ?_
  refine AXc.region' fun K6 hK6 => ?_
  refine AXl.qt rfl (by decide : (9:Nat) < 61) (Still.qt (s_move _)) ?_
  refine AXl.nm_h0 ?_
  refine AXl.qt rfl (by decide : (10:Nat) < 61) (q_call (c10 stdL [50, 52, 53] (by decide)) (.cons (by first | exact ArgOk.d | exact ArgOk.bor rfl | exact ArgOk.agg rfl | exact ArgOk.agg (toDs_map _) | exact ArgOk.nil_bor | exact ArgOk.nil_lst | exact ArgOk.fn | exact ArgOk.ptr rfl rfl | exact ArgOk.aggn rfl (by repeat first | exact .nil | refine .cons (.refl _) ?_ | refine .cons (.nil _) ?_)) (.cons (by first | exact ArgOk.d | exact ArgOk.bor rfl | exact ArgOk.agg rfl | exact ArgOk.agg (toDs_map _) | exact ArgOk.nil_bor | exact ArgOk.nil_lst | exact ArgOk.fn | exact ArgOk.ptr rfl rfl | exact ArgOk.aggn rfl (by repeat first | exact .nil | refine .cons (.refl _) ?_ | refine .cons (.nil _) ?_)) .nil))) ?_
  refine AXl.qt rfl (by decide : (8:Nat) < 61) (Still.qt (s_move _)) ?_
  refine AXl.qt rfl (by decide : (11:Nat) < 61) (Still.qt (s_extract _ _ rfl rfl (by intro us h; cases h))) ?_
  refine AXl.qt rfl (by decide : (12:Nat) < 61) (Still.qt (s_extract _ _ rfl rfl (by intro us h; cases h))) ?_
  refine AXl.alloc zC_29_h (by decide : (2:Nat) < 61) ?_
  refine AXl.nm_h0 ?_
  first
    | refine AXl.store rfl rfl rfl sz_29_h (by simp [Problem.ds, TagRule.ds, Fld.ds, Sub.ds, Rec.ds]) rfl ?_
    | refine AXl.store_row rfl rfl (by first | rfl | exact List.getElem?_eq_getElem (by omega)) rfl sz_29_h (by simp [Problem.ds, TagRule.ds, Fld.ds, Sub.ds, Rec.ds]) rfl ?_
  refine AXl.qt rfl (by decide : (3:Nat) < 61) (Still.qt (s_assign _)) ?_
  refine AXl.nm_h0 ?_
  refine AXl.nil ?_
  refine hK6 _ ?_
  clear hK6 K6
  refine Ethen.n ?_
  refine hK5 _ ?_
  clear hK5 K5
  refine AXc.seq fun K7 hK7 => ?_
  refine AXc.region' fun K8 hK8 => ?_
  refine AXl.qt rfl (by decide : (14:Nat) < 61) (Still.qt (s_move _)) ?_
  refine AXl.nm_h0 ?_
  refine AXl.qt rfl (by decide : (15:Nat) < 61) (q_call (c10 stdL [57, 57, 57] (by decide)) (.cons (by first | exact ArgOk.d | exact ArgOk.bor rfl | exact ArgOk.agg rfl | exact ArgOk.agg (toDs_map _) | exact ArgOk.nil_bor | exact ArgOk.nil_lst | exact ArgOk.fn | exact ArgOk.ptr rfl rfl | exact ArgOk.aggn rfl (by repeat first | exact .nil | refine .cons (.refl _) ?_ | refine .cons (.nil _) ?_)) (.cons (by first | exact ArgOk.d | exact ArgOk.bor rfl | exact ArgOk.agg rfl | exact ArgOk.agg (toDs_map _) | exact ArgOk.nil_bor | exact ArgOk.nil_lst | exact ArgOk.fn | exact ArgOk.ptr rfl rfl | exact ArgOk.aggn rfl (by repeat first | exact .nil | refine .cons (.refl _) ?_ | refine .cons (.nil _) ?_)) .nil))) ?_
  refine AXl.qt rfl (by decide : (13:Nat) < 61) (Still.qt (s_move _)) ?_
  refine AXl.qt rfl (by decide : (16:Nat) < 61) (Still.qt (s_extract _ _ rfl rfl (by intro us h; cases h))) ?_
  refine AXl.qt rfl (by decide : (17:Nat) < 61) (Still.qt (s_extract _ _ rfl rfl (by intro us h; cases h))) ?_
  refine AXl.alloc zC_29_h (by decide : (4:Nat) < 61) ?_
  refine AXl.nm_h0 ?_
  first
    | refine AXl.store rfl rfl rfl sz_29_h (by simp [Problem.ds, TagRule.ds, Fld.ds, Sub.ds, Rec.ds]) rfl ?_
    | refine AXl.store_row rfl rfl (by first | rfl | exact List.getElem?_eq_getElem (by omega)) rfl sz_29_h (by simp [Problem.ds, TagRule.ds, Fld.ds, Sub.ds, Rec.ds]) rfl ?_
  refine AXl.qt rfl (by decide : (5:Nat) < 61) (Still.qt (s_assign _)) ?_
  refine AXl.nm_h0 ?_
  refine AXl.nil ?_
  refine hK8 _ ?_
  clear hK8 K8
  refine Ethen.n ?_
  refine hK7 _ ?_
  clear hK7 K7
  refine AXc.seq fun K9 hK9 => ?_
  refine AXc.region' fun K10 hK10 => ?_
  refine AXl.qt rfl (by decide : (18:Nat) < 61) (Still.qt (s_build _ _ plT_41_h zC_41_h rfl)) ?_
  refine AXl.nm_h0 ?_
  refine AXl.qt rfl (by decide : (19:Nat) < 61) (Still.qt (s_build _ _ plT_41_h zC_41_h rfl)) ?_
  refine AXl.nm_h0 ?_
  refine AXl.qt rfl (by decide : (20:Nat) < 61) (Still.qt (s_build _ _ plT_41_h zC_41_h rfl)) ?_
  refine AXl.qt rfl (by decide : (21:Nat) < 61) (q_buildSlice _ _ _ apT_35_h rfl rfl (by decide)) ?_
  refine AXl.qt rfl (by decide : (6:Nat) < 61) (Still.qt (s_assign _)) ?_
  refine AXl.nm_h0 ?_
  refine AXl.nil ?_
  refine hK10 _ ?_
  clear hK10 K10
  refine Ethen.n ?_
  refine hK9 _ ?_
  clear hK9 K9
  refine AXc.seq fun K11 hK11 => ?_
  refine AXc.region' fun K12 hK12 => ?_
  refine AXl.qt rfl (by decide : (22:Nat) < 61) (Still.qt (s_move _)) ?_
  refine AXl.qt rfl (by decide : (23:Nat) < 61) (Still.qt (s_move _)) ?_
  first
    | refine AXl.qt_guard (by decide : (24:Nat) < 61) rfl (by kernel_rfl) (Still.qt (s_field_loc _ _ _ fdT_29_2_h rfl)) ?_
    | refine AXl.qt_guard (by decide : (24:Nat) < 61) rfl (by kernel_rfl) (Still.qt (s_field_ptr _ _ _ fdT_29_2_h rfl)) ?_
    | refine AXl.qt_guard (by decide : (24:Nat) < 61) rfl (by kernel_rfl) (Still.qt (s_field_row _ _ _ fdT_29_2_h rfl rfl)) ?_
  first
    | refine AXl.qt_guard (by decide : (25:Nat) < 61) rfl (by kernel_rfl) (Still.qt (s_load1 _ _ ldT_4_h rfl)) ?_
    | refine AXl.qt_guard (by decide : (25:Nat) < 61) rfl (by kernel_rfl) (Still.qt (s_load1_row _ _ ldT_4_h rfl rfl (by first | rfl | exact List.getElem?_eq_getElem (by omega)) rfl)) ?_
  refine AXl.nm_h0 ?_
  refine AXl.qt rfl (by decide : (26:Nat) < 61) (Still.qt (s_pick_t _ _ _ rfl)) ?_
  refine AXl.qt rfl (by decide : (27:Nat) < 61) (Still.qt (s_move _)) ?_
  first
    | refine AXl.qt_guard (by decide : (28:Nat) < 61) rfl (by kernel_rfl) (Still.qt (s_field_loc _ _ _ fdT_29_1_h rfl)) ?_
    | refine AXl.qt_guard (by decide : (28:Nat) < 61) rfl (by kernel_rfl) (Still.qt (s_field_ptr _ _ _ fdT_29_1_h rfl)) ?_
    | refine AXl.qt_guard (by decide : (28:Nat) < 61) rfl (by kernel_rfl) (Still.qt (s_field_row _ _ _ fdT_29_1_h rfl rfl)) ?_
  first
    | refine AXl.qt_guard (by decide : (29:Nat) < 61) rfl (by kernel_rfl) (Still.qt (s_load1 _ _ ldT_4_h rfl)) ?_
    | refine AXl.qt_guard (by decide : (29:Nat) < 61) rfl (by kernel_rfl) (Still.qt (s_load1_row _ _ ldT_4_h rfl rfl (by first | rfl | exact List.getElem?_eq_getElem (by omega)) rfl)) ?_
  refine AXl.nm_h0 ?_
  refine AXl.qt_guard (by decide : (30:Nat) < 61) rfl (by kernel_rfl) (Still.qt (s_not _ _ rfl)) ?_
  refine AXl.qt rfl (by decide : (31:Nat) < 61) (Still.qt (s_pick_t _ _ _ rfl)) ?_
  refine AXl.qt rfl (by decide : (32:Nat) < 61) (Still.qt (s_move _)) ?_
  first
    | refine AXl.qt_guard (by decide : (33:Nat) < 61) rfl (by kernel_rfl) (Still.qt (s_field_loc _ _ _ fdT_29_3_h rfl)) ?_
    | refine AXl.qt_guard (by decide : (33:Nat) < 61) rfl (by kernel_rfl) (Still.qt (s_field_ptr _ _ _ fdT_29_3_h rfl)) ?_
    | refine AXl.qt_guard (by decide : (33:Nat) < 61) rfl (by kernel_rfl) (Still.qt (s_field_row _ _ _ fdT_29_3_h rfl rfl)) ?_
  first
    | refine AXl.qt_guard (by decide : (34:Nat) < 61) rfl (by kernel_rfl) (Still.qt (s_load1 _ _ ldT_9_h rfl)) ?_
    | refine AXl.qt_guard (by decide : (34:Nat) < 61) rfl (by kernel_rfl) (Still.qt (s_load1_row _ _ ldT_9_h rfl rfl (by first | rfl | exact List.getElem?_eq_getElem (by omega)) rfl)) ?_
  refine AXl.qt_guard (by decide : (35:Nat) < 61) rfl (by kernel_rfl) (Still.qt (s_scmp _ _ _ _ _ rfl rfl rfl)) ?_
  refine AXl.nm_h0 ?_
  refine AXl.qt rfl (by decide : (36:Nat) < 61) (Still.qt (s_pick_t _ _ _ rfl)) ?_
  refine AXl.qt rfl (by decide : (37:Nat) < 61) (Still.qt (s_move _)) ?_
  refine AXl.qt_guard (by decide : (38:Nat) < 61) rfl (by kernel_rfl) (Still.qt (s_move _)) ?_
  refine AXl.qt_guard (by decide : (39:Nat) < 61) rfl (by kernel_rfl) (Still.qt (s_not _ _ rfl)) ?_
  refine AXl.qt rfl (by decide : (40:Nat) < 61) (Still.qt (s_pick_t _ _ _ rfl)) ?_
  refine AXl.qt rfl (by decide : (41:Nat) < 61) (Still.qt (s_move _)) ?_
  refine AXl.qt_guard (by decide : (42:Nat) < 61) rfl (by kernel_rfl) (Still.qt (s_move _)) ?_
  refine AXl.nm_h0 ?_
  refine AXl.qt_guard (by decide : (43:Nat) < 61) rfl (by kernel_rfl) (q_call (c20 _ _ ?hs) (.cons (by first | exact ArgOk.d | exact ArgOk.bor rfl | exact ArgOk.agg rfl | exact ArgOk.agg (toDs_map _) | exact ArgOk.nil_bor | exact ArgOk.nil_lst | exact ArgOk.fn | exact ArgOk.ptr rfl rfl | exact ArgOk.aggn rfl (by repeat first | exact .nil | refine .cons (.refl _) ?_ | refine .cons (.nil _) ?_)) (.cons (by first | exact ArgOk.d | exact ArgOk.bor rfl | exact ArgOk.agg rfl | exact ArgOk.agg (toDs_map _) | exact ArgOk.nil_bor | exact ArgOk.nil_lst | exact ArgOk.fn | exact ArgOk.ptr rfl rfl | exact ArgOk.aggn rfl (by repeat first | exact .nil | refine .cons (.refl _) ?_ | refine .cons (.nil _) ?_)) .nil))) ?_
  case hs => decide
  refine AXl.nm_h0 ?_
  refine AXl.qt_guard (by decide : (44:Nat) < 61) rfl (by kernel_rfl) (q_call (c16 stdL (oneR [50, 52, 53] [97]) okStd (okOne _ _ (by decide) (by decide))) (.cons (by first | exact ArgOk.d | exact ArgOk.bor rfl | exact ArgOk.agg rfl | exact ArgOk.agg (toDs_map _) | exact ArgOk.nil_bor | exact ArgOk.nil_lst | exact ArgOk.fn | exact ArgOk.ptr rfl rfl | exact ArgOk.aggn rfl (by repeat first | exact .nil | refine .cons (.refl _) ?_ | refine .cons (.nil _) ?_)) (.cons (by first | exact ArgOk.d | exact ArgOk.bor rfl | exact ArgOk.agg rfl | exact ArgOk.agg (toDs_map _) | exact ArgOk.nil_bor | exact ArgOk.nil_lst | exact ArgOk.fn | exact ArgOk.ptr rfl rfl | exact ArgOk.aggn rfl (by repeat first | exact .nil | refine .cons (.refl _) ?_ | refine .cons (.nil _) ?_)) .nil))) ?_
  refine AXl.nm_h0 ?_
  refine AXl.qt rfl (by decide : (45:Nat) < 61) (Still.qt (s_pick_t _ _ _ rfl)) ?_
  refine AXl.qt rfl (by decide : (46:Nat) < 61) (Still.qt (s_move _)) ?_
  refine AXl.qt_guard (by decide : (47:Nat) < 61) rfl (by kernel_rfl) (Still.qt (s_move _)) ?_
  refine AXl.qt_guard (by decide : (48:Nat) < 61) rfl (by kernel_rfl) (Still.qt (s_build _ _ plT_27_h zC_27_h rfl)) ?_
  refine AXl.nm_h0 ?_
  refine AXl.qt_guard (by decide : (49:Nat) < 61) rfl (by kernel_rfl) (q_call (c15 stdL emptyR okStd okEmpty) (.cons (by first | exact ArgOk.d | exact ArgOk.bor rfl | exact ArgOk.agg rfl | exact ArgOk.agg (toDs_map _) | exact ArgOk.nil_bor | exact ArgOk.nil_lst | exact ArgOk.fn | exact ArgOk.ptr rfl rfl | exact ArgOk.aggn rfl (by repeat first | exact .nil | refine .cons (.refl _) ?_ | refine .cons (.nil _) ?_)) (.cons (by first | exact ArgOk.d | exact ArgOk.bor rfl | exact ArgOk.agg rfl | exact ArgOk.agg (toDs_map _) | exact ArgOk.nil_bor | exact ArgOk.nil_lst | exact ArgOk.fn | exact ArgOk.ptr rfl rfl | exact ArgOk.aggn rfl (by repeat first | exact .nil | refine .cons (.refl _) ?_ | refine .cons (.nil _) ?_)) .nil))) ?_
  refine AXl.nm_h0 ?_
  refine AXl.qt_guard (by decide : (50:Nat) < 61) rfl (by kernel_rfl) (Still.qt (s_build _ _ plT_41_h zC_41_h rfl)) ?_
  refine AXl.qt_guard (by decide : (51:Nat) < 61) rfl (by kernel_rfl) (q_buildSlice _ _ _ apT_35_h rfl rfl (by decide)) ?_
  refine AXl.nm_h0 ?_
  refine AXl.qt_guard (by decide : (52:Nat) < 61) rfl (by kernel_rfl) (q_call (c14 [⟨1, -1, [50, 52, 53], 0⟩] [⟨1, -1, [50, 52, 53], 0⟩] (by decide)) (.cons (by first | exact ArgOk.d | exact ArgOk.bor rfl | exact ArgOk.agg rfl | exact ArgOk.agg (toDs_map _) | exact ArgOk.nil_bor | exact ArgOk.nil_lst | exact ArgOk.fn | exact ArgOk.ptr rfl rfl | exact ArgOk.aggn rfl (by repeat first | exact .nil | refine .cons (.refl _) ?_ | refine .cons (.nil _) ?_)) (.cons (by first | exact ArgOk.d | exact ArgOk.bor rfl | exact ArgOk.agg rfl | exact ArgOk.agg (toDs_map _) | exact ArgOk.nil_bor | exact ArgOk.nil_lst | exact ArgOk.fn | exact ArgOk.ptr rfl rfl | exact ArgOk.aggn rfl (by repeat first | exact .nil | refine .cons (.refl _) ?_ | refine .cons (.nil _) ?_)) .nil))) ?_
  refine AXl.nm_h0 ?_
  refine AXl.qt rfl (by decide : (53:Nat) < 61) (Still.qt (s_pick_t _ _ _ rfl)) ?_
  refine AXl.qt rfl (by decide : (54:Nat) < 61) (Still.qt (s_move _)) ?_
  refine AXl.qt_guard (by decide : (55:Nat) < 61) rfl (by kernel_rfl) (Still.qt (s_move _)) ?_
  refine AXl.nm_h0 ?_
  refine AXl.qt_guard (by decide : (56:Nat) < 61) rfl (by kernel_rfl) (q_call (c20 _ _ ?hs) (.cons (by first | exact ArgOk.d | exact ArgOk.bor rfl | exact ArgOk.agg rfl | exact ArgOk.agg (toDs_map _) | exact ArgOk.nil_bor | exact ArgOk.nil_lst | exact ArgOk.fn | exact ArgOk.ptr rfl rfl | exact ArgOk.aggn rfl (by repeat first | exact .nil | refine .cons (.refl _) ?_ | refine .cons (.nil _) ?_)) (.cons (by first | exact ArgOk.d | exact ArgOk.bor rfl | exact ArgOk.agg rfl | exact ArgOk.agg (toDs_map _) | exact ArgOk.nil_bor | exact ArgOk.nil_lst | exact ArgOk.fn | exact ArgOk.ptr rfl rfl | exact ArgOk.aggn rfl (by repeat first | exact .nil | refine .cons (.refl _) ?_ | refine .cons (.nil _) ?_)) .nil))) ?_
  case hs => decide
  refine AXl.nm_h0 ?_
  refine AXl.qt_guard (by decide : (57:Nat) < 61) rfl (by kernel_rfl) (q_call (c15 stdL (oneR [50, 52, 53] [98, 99, 99, 113]) okStd (okOne _ _ (by decide) (by decide))) (.cons (by first | exact ArgOk.d | exact ArgOk.bor rfl | exact ArgOk.agg rfl | exact ArgOk.agg (toDs_map _) | exact ArgOk.nil_bor | exact ArgOk.nil_lst | exact ArgOk.fn | exact ArgOk.ptr rfl rfl | exact ArgOk.aggn rfl (by repeat first | exact .nil | refine .cons (.refl _) ?_ | refine .cons (.nil _) ?_)) (.cons (by first | exact ArgOk.d | exact ArgOk.bor rfl | exact ArgOk.agg rfl | exact ArgOk.agg (toDs_map _) | exact ArgOk.nil_bor | exact ArgOk.nil_lst | exact ArgOk.fn | exact ArgOk.ptr rfl rfl | exact ArgOk.aggn rfl (by repeat first | exact .nil | refine .cons (.refl _) ?_ | refine .cons (.nil _) ?_)) .nil))) ?_
  refine AXl.qt_guard (by decide : (58:Nat) < 61) rfl (by kernel_rfl) (Still.qt (s_move _)) ?_
  refine AXl.nm_h0 ?_
  refine AXl.qt_guard (by decide : (59:Nat) < 61) rfl (by kernel_rfl) (q_call (c14 [⟨5, 0, [50, 52, 53], 99⟩, ⟨4, 0, [50, 52, 53], 113⟩, ⟨6, 0, [50, 52, 53], 97⟩] [⟨5, 0, [50, 52, 53], 99⟩, ⟨4, 0, [50, 52, 53], 113⟩, ⟨6, 0, [50, 52, 53], 97⟩] (by decide)) (.cons (by first | exact ArgOk.d | exact ArgOk.bor rfl | exact ArgOk.agg rfl | exact ArgOk.agg (toDs_map _) | exact ArgOk.nil_bor | exact ArgOk.nil_lst | exact ArgOk.fn | exact ArgOk.ptr rfl rfl | exact ArgOk.aggn rfl (by repeat first | exact .nil | refine .cons (.refl _) ?_ | refine .cons (.nil _) ?_)) (.cons (by first | exact ArgOk.d | exact ArgOk.bor rfl | exact ArgOk.agg rfl | exact ArgOk.agg (toDs_map _) | exact ArgOk.nil_bor | exact ArgOk.nil_lst | exact ArgOk.fn | exact ArgOk.ptr rfl rfl | exact ArgOk.aggn rfl (by repeat first | exact .nil | refine .cons (.refl _) ?_ | refine .cons (.nil _) ?_)) .nil))) ?_
  refine AXl.nm_h0 ?_
  refine AXl.qt rfl (by decide : (60:Nat) < 61) (Still.qt (s_pick_t _ _ _ rfl)) ?_
  refine AXl.qt rfl (by decide : (0:Nat) < 61) (Still.qt (s_assign _)) ?_
  refine AXl.nm_h0 ?_
  refine AXl.nil ?_
  refine hK12 _ ?_
  clear hK12 K12
  refine Ethen.n ?_
  refine hK11 _ ?_
  clear hK11 K11
  refine AXc.ret ?_
  refine Fin.ret rfl rfl ?_
  rfl
end Go.Proofs
