/- Part of a proof about this program; no condition of its own. -/
import Derived.Test.YtjaooadhjmlhnaaDoorRWd
import Derived.Test.YtjaooadhjmlhnaaDoorProg
set_option linter.all false
namespace Go.Proofs
open Go Go.Ax Go.Rl
theorem apT_35_e : apT Tryd.prog 35 = some (41, 4, 40) := by kernel_rfl
theorem mixed_e : Tryd.prog.follows .mixedOrders = true := by kernel_rfl
theorem slT_22_e : slT Tryd.prog 22 = some (29, 7) := by kernel_rfl
theorem fdT_29_2_e : fdT Tryd.prog 29 2 = some 2 := by kernel_rfl
theorem ldT_4_e : ldT Tryd.prog 4 = some none := by kernel_rfl
theorem ldT_27_e : ldT Tryd.prog 27 = some (some 5) := by kernel_rfl
theorem fdT_27_4_e : fdT Tryd.prog 27 4 = some 4 := by kernel_rfl
theorem ldT_25_e : ldT Tryd.prog 25 = some none := by kernel_rfl
theorem fdT_29_0_e : fdT Tryd.prog 29 0 = some 0 := by kernel_rfl
theorem ldT_9_e : ldT Tryd.prog 9 = some none := by kernel_rfl
theorem slT_25_e : slT Tryd.prog 25 = some (45, 4) := by kernel_rfl
theorem ldT_45_e : ldT Tryd.prog 45 = some (some 4) := by kernel_rfl
theorem zC_45_e : zeroC Tryd.prog 45 = some [.d (.str []), .d (.str []), .d (.raw (.slice none 0 0)), .d (.int .i64 0)] := by kernel_rfl
theorem sz_45_e : (Tryd.prog.info? 45).map (·.size) = some 4 := by kernel_rfl
theorem fdT_45_0_e : fdT Tryd.prog 45 0 = some 0 := by kernel_rfl
theorem zC_29_e : zeroC Tryd.prog 29 = some [.d (.str []), .d (.bool false), .d (.bool false), .d (.str []), .d (.str []), .d (.str []), .d (.int .i64 0)] := by kernel_rfl
theorem sz_29_e : (Tryd.prog.info? 29).map (·.size) = some 7 := by kernel_rfl
theorem fdT_29_1_e : fdT Tryd.prog 29 1 = some 1 := by kernel_rfl
theorem fdT_45_2_e : fdT Tryd.prog 45 2 = some 2 := by kernel_rfl
theorem ldT_43_e : ldT Tryd.prog 43 = some none := by kernel_rfl
theorem slT_43_e : slT Tryd.prog 43 = some (55, 2) := by kernel_rfl
theorem fdT_55_0_e : fdT Tryd.prog 55 0 = some 0 := by kernel_rfl
theorem ldT_5_e : ldT Tryd.prog 5 = some none := by kernel_rfl
theorem fdT_29_3_e : fdT Tryd.prog 29 3 = some 3 := by kernel_rfl
theorem fdT_29_4_e : fdT Tryd.prog 29 4 = some 4 := by kernel_rfl
theorem fdT_29_5_e : fdT Tryd.prog 29 5 = some 5 := by kernel_rfl
theorem fdT_45_3_e : fdT Tryd.prog 45 3 = some 3 := by kernel_rfl
theorem ldT_3_e : ldT Tryd.prog 3 = some none := by kernel_rfl
theorem fdT_29_6_e : fdT Tryd.prog 29 6 = some 6 := by kernel_rfl
theorem AXl.nm_e0 {P : Program} {pm : Pm} {ops : Array Oper} {rest : List Oper} {st st' : St} {K : St → Prop} (hk : AXl P pm ops rest st' K) (he : st = st' := by first | (simp only [St.put, putE, U, del, lk, ev, cAV, lkG, rsAV, rvAV, ↓reduceIte, Nat.reduceEqDiff, Nat.reduceAdd, Nat.reduceMul, List.length_map, List.length_cons, List.length_nil, List.getElem_map, Int.toNat_natCast, List.cons_append, List.nil_append, List.set_cons_zero, List.set_cons_succ, splice, List.take_succ_cons, List.take_zero, List.drop_succ_cons, List.drop_zero, Nat.zero_add, Nat.add_zero, List.map_cons, List.map_nil, List.take_nil, List.drop_nil, List.append_nil, Problem.ds, TagRule.ds, Fld.ds, Sub.ds, Rec.ds, indexByte_any, indexByte_any', ← List.map_take, Nat.sub_zero, tagd_pos, tagd_zero, cnt_pos, cnt_zero, List.take_length]; done) | (simp only [St.put, putE, U, del, lk, ev, cAV, lkG, rsAV, rvAV, ↓reduceIte, Nat.reduceEqDiff, Nat.reduceAdd, Nat.reduceMul, List.length_map, List.length_cons, List.length_nil, List.getElem_map, Int.toNat_natCast, List.cons_append, List.nil_append, List.set_cons_zero, List.set_cons_succ, splice, List.take_succ_cons, List.take_zero, List.drop_succ_cons, List.drop_zero, Nat.zero_add, Nat.add_zero, List.map_cons, List.map_nil, List.take_nil, List.drop_nil, List.append_nil, Problem.ds, TagRule.ds, Fld.ds, Sub.ds, Rec.ds, indexByte_any, indexByte_any', ← List.map_take, Nat.sub_zero, tagd_pos, tagd_zero, cnt_pos, cnt_zero, List.take_length]; rfl) | rfl) : AXl P pm ops rest st K := he ▸ hk
theorem AXd.nm_e0 {P : Program} {pm : Pm} {h : List LB} {ops : Array Oper} {pre : List Oper} {ρ ρ' : List (Nat × AV)} {Kd : List (Nat × AV) → Prop} (hk : AXd P pm h ops pre ρ' Kd) (he : ρ = ρ' := by first | (simp only [St.put, putE, U, del, lk, ev, cAV, lkG, rsAV, rvAV, ↓reduceIte, Nat.reduceEqDiff, Nat.reduceAdd, Nat.reduceMul, List.length_map, List.length_cons, List.length_nil, List.getElem_map, Int.toNat_natCast, List.cons_append, List.nil_append, List.set_cons_zero, List.set_cons_succ, splice, List.take_succ_cons, List.take_zero, List.drop_succ_cons, List.drop_zero, Nat.zero_add, Nat.add_zero, List.map_cons, List.map_nil, List.take_nil, List.drop_nil, List.append_nil, Problem.ds, TagRule.ds, Fld.ds, Sub.ds, Rec.ds, indexByte_any, indexByte_any', ← List.map_take, Nat.sub_zero, tagd_pos, tagd_zero, cnt_pos, cnt_zero, List.take_length]; done) | (simp only [St.put, putE, U, del, lk, ev, cAV, lkG, rsAV, rvAV, ↓reduceIte, Nat.reduceEqDiff, Nat.reduceAdd, Nat.reduceMul, List.length_map, List.length_cons, List.length_nil, List.getElem_map, Int.toNat_natCast, List.cons_append, List.nil_append, List.set_cons_zero, List.set_cons_succ, splice, List.take_succ_cons, List.take_zero, List.drop_succ_cons, List.drop_zero, Nat.zero_add, Nat.add_zero, List.map_cons, List.map_nil, List.take_nil, List.drop_nil, List.append_nil, Problem.ds, TagRule.ds, Fld.ds, Sub.ds, Rec.ds, indexByte_any, indexByte_any', ← List.map_take, Nat.sub_zero, tagd_pos, tagd_zero, cnt_pos, cnt_zero, List.take_length]; rfl) | rfl) : AXd P pm h ops pre ρ Kd := he ▸ hk
set_option maxHeartbeats 4000000 in
/-- The contract of library libraryref09.Check. -/
theorem c13 {Γ : List (Nat × List D)} (l : List TagRule) (r : Rec) (hl : OkL l) (hf : OkS r.fields) : AFn Tryd.prog Γ 13 [.c (.d (.lst 7 (l.map TagRule.ds))), .agg (r.ds.map C.d)] [.fresh 41 4 ((chkP l r.fields).map Problem.ds)] := by
  have hl60 := hl.len
  have hf64 := hf.len
  have hlen := chkP_len hl hf
  have hlen1 : (mustP r.fields l).length + (fldsP l [] r.fields).length = (chkP l r.fields).length := by rw [chkP, List.length_append]
  refine AFn.of_body1 (n := 183) (r := .tmp 4) 1 Tryd.func13 (by kernel_rfl) rfl Tryd.ntmps13 (by rw [Tryd.results13]) (by simp) ?_
  simp only [envOf, Nat.reduceAdd]
  refine AXc.seq fun K1 hK1 => ?_
  refine AXc.region' fun K2 hK2 => ?_
  refine AXl.box rfl (by decide : (3:Nat) < 183) ?_
  refine AXl.qt rfl (by decide : (4:Nat) < 183) (Still.qt (s_assign _)) ?_
  refine AXl.nm_e0 ?_
  refine AXl.nil ?_
  refine hK2 _ ?_
  clear hK2 K2
  refine Ethen.n ?_
  refine hK1 _ ?_
  clear hK1 K1
  refine AXc.seq fun K3 hK3 => ?_
  refine AXc.region' fun K4 hK4 => ?_
  refine AXl.buildSlice apT_35_e rfl rfl (by decide) (by decide : (14:Nat) < 183) ?_
  refine AXl.qt rfl (by decide : (5:Nat) < 183) (Still.qt (s_assign _)) ?_
  refine AXl.nm_e0 ?_
  refine AXl.nil ?_
  refine hK4 _ ?_
  clear hK4 K4
  refine Ethen.n ?_
  refine hK3 _ ?_
  clear hK3 K3
  refine AXc.seq fun K5 hK5 => ?_
  refine AXc.seq fun K6 hK6 => ?_
  refine AXc.region' fun K7 hK7 => ?_
  refine AXl.qt rfl (by decide : (6:Nat) < 183) (Still.qt (s_assign _)) ?_
  refine AXl.nm_e0 ?_
  refine AXl.nil ?_
  refine hK7 _ ?_
  clear hK7 K7
  refine Ethen.n ?_
  refine hK6 _ ?_
  clear hK6 K6
  refine AXc.block ?_
  refine AXc.loop (S := Nat × Nat × List Problem) (fun ⟨k, ver, out⟩ => ⟨[(0, .c (.d (.lst 7 (l.map TagRule.ds)))), (3, .c (.loc 0 0)), (5, .c (.own 1 ver)), (6, .c (.d (.int .i64 k)))], [.box 27 (r.ds.map C.d), .row 41 4 (out.map Problem.ds) ver]⟩) (fun ⟨k, ver, out⟩ => k ≤ l.length ∧ out ++ mustP r.fields (l.drop k) = mustP r.fields l) (fun ⟨k, ver, out⟩ => l.length - k) (0, 0, []) ⟨by omega, by simp⟩ (by refine ⟨?_, ?_, ?_, ?_, ?_, ?_⟩ <;> (simp [subE, lk, AV.low, C.low, LB.low, Problem.ds, TagRule.ds, Fld.ds, Sub.ds, Rec.ds] <;> fail)) ?_
  rintro ⟨k, ver, out⟩ ⟨hk0, hinv⟩
  have hb := congrArg List.length hinv; rw [List.length_append] at hb
  try simp only [Problem.ds, TagRule.ds, Fld.ds, Sub.ds, Rec.ds, indexByte_any, indexByte_any', ← List.map_take, Nat.sub_zero, tagd_pos, tagd_zero, cnt_pos, cnt_zero, List.take_length, List.map_cons, List.map_nil]
  refine AXc.seq fun K8 hK8 => ?_
  refine AXc.seq fun K9 hK9 => ?_
  refine AXc.region' fun K10 hK10 => ?_
  refine AXl.qt rfl (by decide : (15:Nat) < 183) (Still.qt (s_move _)) ?_
  refine AXl.qt rfl (by decide : (16:Nat) < 183) (Still.qt (s_move _)) ?_
  first
    | refine AXl.qt rfl (by decide : (17:Nat) < 183) (Still.qt (s_len _ _ Tryd.underlying22 rfl)) ?_
    | refine AXl.qt rfl (by decide : (17:Nat) < 183) (Still.qt (s_len_nil _ _ Tryd.underlying22 rfl)) ?_
  refine AXl.qt rfl (by decide : (18:Nat) < 183) (Still.qt (s_icmp _ _ _ _ _ rfl rfl rfl)) ?_
  refine AXl.nm_e0 ?_
  refine AXl.nil ?_
  refine hK10 _ ?_
  clear hK10 K10
  refine Ethen.n ?_
  refine hK9 _ ?_
  clear hK9 K9
  refine AXc.cond rfl (fun hc11 => ?_) (fun hc11 => ?_)
  · try simp only [decide_eq_true_eq, decide_eq_false_iff_not, Bool.not_eq_true', Bool.not_eq_false', Int.not_lt, Int.not_le, ne_eq, Decidable.not_not, bne_iff_ne, beq_iff_eq, Bool.and_eq_true, Bool.or_eq_true, Bool.and_eq_false_iff, Bool.or_eq_false_iff, Bool.not_not, Ax.u8eq] at hc11
    have hk : k < l.length := by omega
    refine AXc.skip ?_
    refine Ethen.n ?_
    refine hK8 _ ?_
    clear hK8 K8
    refine AXc.seq fun K12 hK12 => ?_
    refine AXc.block ?_
    refine AXc.seq fun K13 hK13 => ?_
    refine AXc.draw' mixed_e 18 (by kernel_rfl) fun K14 hK14 => ?_
    simp only [List.take_succ_cons, List.take_zero, List.take_nil, List.drop_succ_cons, List.drop_zero, List.drop_nil]
    refine AXd.op rfl (Still.qt (s_move _)) ?_
    refine AXd.op rfl (Still.qt (s_move _)) ?_
    first
      | refine AXd.op rfl (Still.qt (s_index _ _ _ slT_22_e (.inl rfl) rfl rfl (by first | omega | (simp only [List.length_map, List.length_cons, List.length_nil, List.length_append, List.length_take, List.length_drop]; omega)) (List.getElem?_eq_getElem (by first | omega | (simp only [List.length_map, List.length_cons, List.length_nil, List.length_append, List.length_take, List.length_drop]; omega))))) ?_
      | refine AXd.op rfl (Still.qt (s_index _ _ _ slT_22_e (.inr rfl) rfl rfl (by first | omega | (simp only [List.length_map, List.length_cons, List.length_nil, List.length_append, List.length_take, List.length_drop]; omega)) (List.getElem?_eq_getElem (by first | omega | (simp only [List.length_map, List.length_cons, List.length_nil, List.length_append, List.length_take, List.length_drop]; omega))))) ?_
      | refine AXd.op rfl (Still.qt (s_index_own _ _ _ slT_22_e rfl rfl rfl rfl (by first | omega | (simp only [List.length_map, List.length_cons, List.length_nil, List.length_append, List.length_take, List.length_drop]; omega)) (by first | omega | (simp only [List.length_map, List.length_cons, List.length_nil, List.length_append, List.length_take, List.length_drop]; omega)))) ?_
    refine AXd.nm_e0 ?_
    first
      | refine AXd.op rfl (Still.qt (s_field_loc _ _ _ fdT_29_2_e rfl)) ?_
      | refine AXd.op rfl (Still.qt (s_field_ptr _ _ _ fdT_29_2_e rfl)) ?_
      | refine AXd.op rfl (Still.qt (s_field_row _ _ _ fdT_29_2_e rfl rfl)) ?_
    first
      | refine AXd.op rfl (Still.qt (s_load1 _ _ ldT_4_e rfl)) ?_
      | refine AXd.op rfl (Still.qt (s_load1_row _ _ ldT_4_e rfl rfl (by first | rfl | exact List.getElem?_eq_getElem (by omega)) rfl)) ?_
    refine AXd.op rfl (Still.qt (s_move _)) ?_
    refine AXd.nm_e0 ?_
    refine AXd.split 26 _ rfl (fun hg15 => ?_) (fun hg15 => ?_)
    · try simp only [decide_eq_true_eq, decide_eq_false_iff_not, Bool.not_eq_true', Bool.not_eq_false', Int.not_lt, Int.not_le, ne_eq, Decidable.not_not, bne_iff_ne, beq_iff_eq, Bool.and_eq_true, Bool.or_eq_true, Bool.and_eq_false_iff, Bool.or_eq_false_iff, Bool.not_not, Ax.u8eq] at hg15
      simp only [del, ↓reduceIte, Nat.reduceEqDiff]
      first
        | refine AXd.op rfl (Still.qt (s_loadN _ _ ldT_27_e rfl (by simp [Problem.ds, TagRule.ds, Fld.ds, Sub.ds, Rec.ds]))) ?_
        | refine AXd.op rfl (Still.qt (s_loadN_row _ _ ldT_27_e rfl rfl (by first | rfl | exact List.getElem?_eq_getElem (by omega)) (by simp [Problem.ds, TagRule.ds, Fld.ds, Sub.ds, Rec.ds]))) ?_
      first
        | refine AXd.op rfl (Still.qt (s_field_loc _ _ _ fdT_27_4_e rfl)) ?_
        | refine AXd.op rfl (Still.qt (s_field_ptr _ _ _ fdT_27_4_e rfl)) ?_
        | refine AXd.op rfl (Still.qt (s_field_row _ _ _ fdT_27_4_e rfl rfl)) ?_
      first
        | refine AXd.op rfl (Still.qt (s_load1 _ _ ldT_25_e rfl)) ?_
        | refine AXd.op rfl (Still.qt (s_load1_row _ _ ldT_25_e rfl rfl (by first | rfl | exact List.getElem?_eq_getElem (by omega)) rfl)) ?_
      first
        | refine AXd.op rfl (Still.qt (s_len _ _ Tryd.underlying25 rfl)) ?_
        | refine AXd.op rfl (Still.qt (s_len_nil _ _ Tryd.underlying25 rfl)) ?_
      refine AXd.op rfl (Still.qt (s_move _)) ?_
      refine AXd.op rfl (Still.qt (s_move _)) ?_
      first
        | refine AXd.op rfl (Still.qt (s_index _ _ _ slT_22_e (.inl rfl) rfl rfl (by first | omega | (simp only [List.length_map, List.length_cons, List.length_nil, List.length_append, List.length_take, List.length_drop]; omega)) (List.getElem?_eq_getElem (by first | omega | (simp only [List.length_map, List.length_cons, List.length_nil, List.length_append, List.length_take, List.length_drop]; omega))))) ?_
        | refine AXd.op rfl (Still.qt (s_index _ _ _ slT_22_e (.inr rfl) rfl rfl (by first | omega | (simp only [List.length_map, List.length_cons, List.length_nil, List.length_append, List.length_take, List.length_drop]; omega)) (List.getElem?_eq_getElem (by first | omega | (simp only [List.length_map, List.length_cons, List.length_nil, List.length_append, List.length_take, List.length_drop]; omega))))) ?_
        | refine AXd.op rfl (Still.qt (s_index_own _ _ _ slT_22_e rfl rfl rfl rfl (by first | omega | (simp only [List.length_map, List.length_cons, List.length_nil, List.length_append, List.length_take, List.length_drop]; omega)) (by first | omega | (simp only [List.length_map, List.length_cons, List.length_nil, List.length_append, List.length_take, List.length_drop]; omega)))) ?_
      refine AXd.nm_e0 ?_
      first
        | refine AXd.op rfl (Still.qt (s_field_loc _ _ _ fdT_29_0_e rfl)) ?_
        | refine AXd.op rfl (Still.qt (s_field_ptr _ _ _ fdT_29_0_e rfl)) ?_
        | refine AXd.op rfl (Still.qt (s_field_row _ _ _ fdT_29_0_e rfl rfl)) ?_
      first
        | refine AXd.op rfl (Still.qt (s_load1 _ _ ldT_9_e rfl)) ?_
        | refine AXd.op rfl (Still.qt (s_load1_row _ _ ldT_9_e rfl rfl (by first | rfl | exact List.getElem?_eq_getElem (by omega)) rfl)) ?_
      refine AXd.nm_e0 ?_
      refine AXd.op rfl (q_call (c26 r _ _ ?hs ?ht) (.cons (by first | exact ArgOk.d | exact ArgOk.bor rfl | exact ArgOk.agg rfl | exact ArgOk.agg (toDs_map _) | exact ArgOk.nil_bor | exact ArgOk.nil_lst | exact ArgOk.fn | exact ArgOk.ptr rfl rfl | exact ArgOk.aggn rfl (by repeat first | exact .nil | refine .cons (.refl _) ?_ | refine .cons (.nil _) ?_)) (.cons (by first | exact ArgOk.d | exact ArgOk.bor rfl | exact ArgOk.agg rfl | exact ArgOk.agg (toDs_map _) | exact ArgOk.nil_bor | exact ArgOk.nil_lst | exact ArgOk.fn | exact ArgOk.ptr rfl rfl | exact ArgOk.aggn rfl (by repeat first | exact .nil | refine .cons (.refl _) ?_ | refine .cons (.nil _) ?_)) (.cons (by first | exact ArgOk.d | exact ArgOk.bor rfl | exact ArgOk.agg rfl | exact ArgOk.agg (toDs_map _) | exact ArgOk.nil_bor | exact ArgOk.nil_lst | exact ArgOk.fn | exact ArgOk.ptr rfl rfl | exact ArgOk.aggn rfl (by repeat first | exact .nil | refine .cons (.refl _) ?_ | refine .cons (.nil _) ?_)) .nil)))) ?_
      case hs => omega
      case ht => omega
      refine AXd.op rfl (Still.qt (s_icmp _ _ _ _ _ rfl rfl rfl)) ?_
      refine AXd.op rfl (Still.qt (s_pick_t _ _ _ rfl)) ?_
      refine AXd.nm_e0 ?_
      refine AXd.nil ?_
      refine AXl.nil ?_
      refine hK14 _ ?_
      clear hK14 K14
      refine Ethen.n ?_
      refine hK13 _ ?_
      clear hK13 K13
      refine AXc.cond rfl (fun hc16 => ?_) (fun hc16 => ?_)
      · try simp only [decide_eq_true_eq, decide_eq_false_iff_not, Bool.not_eq_true', Bool.not_eq_false', Int.not_lt, Int.not_le, ne_eq, Decidable.not_not, bne_iff_ne, beq_iff_eq, Bool.and_eq_true, Bool.or_eq_true, Bool.and_eq_false_iff, Bool.or_eq_false_iff, Bool.not_not, Ax.u8eq] at hc16
        refine AXc.region' fun K17 hK17 => ?_
        refine AXl.qt rfl (by decide : (39:Nat) < 183) (Still.qt (s_move _)) ?_
        refine AXl.qt rfl (by decide : (40:Nat) < 183) (Still.qt (s_move _)) ?_
        refine AXl.qt rfl (by decide : (41:Nat) < 183) (Still.qt (s_move _)) ?_
        first
          | refine AXl.qt rfl (by decide : (42:Nat) < 183) (Still.qt (s_index _ _ _ slT_22_e (.inl rfl) rfl rfl (by first | omega | (simp only [List.length_map, List.length_cons, List.length_nil, List.length_append, List.length_take, List.length_drop]; omega)) (List.getElem?_eq_getElem (by first | omega | (simp only [List.length_map, List.length_cons, List.length_nil, List.length_append, List.length_take, List.length_drop]; omega))))) ?_
          | refine AXl.qt rfl (by decide : (42:Nat) < 183) (Still.qt (s_index _ _ _ slT_22_e (.inr rfl) rfl rfl (by first | omega | (simp only [List.length_map, List.length_cons, List.length_nil, List.length_append, List.length_take, List.length_drop]; omega)) (List.getElem?_eq_getElem (by first | omega | (simp only [List.length_map, List.length_cons, List.length_nil, List.length_append, List.length_take, List.length_drop]; omega))))) ?_
          | refine AXl.qt rfl (by decide : (42:Nat) < 183) (Still.qt (s_index_own _ _ _ slT_22_e rfl rfl rfl rfl (by first | omega | (simp only [List.length_map, List.length_cons, List.length_nil, List.length_append, List.length_take, List.length_drop]; omega)) (by first | omega | (simp only [List.length_map, List.length_cons, List.length_nil, List.length_append, List.length_take, List.length_drop]; omega)))) ?_
        refine AXl.nm_e0 ?_
        first
          | refine AXl.qt rfl (by decide : (43:Nat) < 183) (Still.qt (s_field_loc _ _ _ fdT_29_0_e rfl)) ?_
          | refine AXl.qt rfl (by decide : (43:Nat) < 183) (Still.qt (s_field_ptr _ _ _ fdT_29_0_e rfl)) ?_
          | refine AXl.qt rfl (by decide : (43:Nat) < 183) (Still.qt (s_field_row _ _ _ fdT_29_0_e rfl rfl)) ?_
        first
          | refine AXl.qt rfl (by decide : (44:Nat) < 183) (Still.qt (s_load1 _ _ ldT_9_e rfl)) ?_
          | refine AXl.qt rfl (by decide : (44:Nat) < 183) (Still.qt (s_load1_row _ _ ldT_9_e rfl rfl (by first | rfl | exact List.getElem?_eq_getElem (by omega)) rfl)) ?_
        refine AXl.nm_e0 ?_
        refine AXl.qt rfl (by decide : (45:Nat) < 183) (q_call (c27 1 (-1) _ 0) (.cons (by first | exact ArgOk.d | exact ArgOk.bor rfl | exact ArgOk.agg rfl | exact ArgOk.agg (toDs_map _) | exact ArgOk.nil_bor | exact ArgOk.nil_lst | exact ArgOk.fn | exact ArgOk.ptr rfl rfl | exact ArgOk.aggn rfl (by repeat first | exact .nil | refine .cons (.refl _) ?_ | refine .cons (.nil _) ?_)) (.cons (by first | exact ArgOk.d | exact ArgOk.bor rfl | exact ArgOk.agg rfl | exact ArgOk.agg (toDs_map _) | exact ArgOk.nil_bor | exact ArgOk.nil_lst | exact ArgOk.fn | exact ArgOk.ptr rfl rfl | exact ArgOk.aggn rfl (by repeat first | exact .nil | refine .cons (.refl _) ?_ | refine .cons (.nil _) ?_)) (.cons (by first | exact ArgOk.d | exact ArgOk.bor rfl | exact ArgOk.agg rfl | exact ArgOk.agg (toDs_map _) | exact ArgOk.nil_bor | exact ArgOk.nil_lst | exact ArgOk.fn | exact ArgOk.ptr rfl rfl | exact ArgOk.aggn rfl (by repeat first | exact .nil | refine .cons (.refl _) ?_ | refine .cons (.nil _) ?_)) (.cons (by first | exact ArgOk.d | exact ArgOk.bor rfl | exact ArgOk.agg rfl | exact ArgOk.agg (toDs_map _) | exact ArgOk.nil_bor | exact ArgOk.nil_lst | exact ArgOk.fn | exact ArgOk.ptr rfl rfl | exact ArgOk.aggn rfl (by repeat first | exact .nil | refine .cons (.refl _) ?_ | refine .cons (.nil _) ?_)) .nil))))) ?_
        refine AXl.qt rfl (by decide : (46:Nat) < 183) (q_buildSlice _ _ _ apT_35_e rfl rfl (by decide)) ?_
        first
          | refine AXl.append apT_35_e rfl rfl rfl (by simp only [List.length_append, List.length_map, List.length_cons, List.length_nil]; omega) (by simp only [List.length_append, List.length_map, List.length_cons, List.length_nil]; omega) (by decide : (47:Nat) < 183) ?_
          | refine AXl.append_nil apT_35_e rfl (by decide) rfl (by simp only [List.length_append, List.length_map, List.length_cons, List.length_nil]; omega) (by simp only [List.length_append, List.length_map, List.length_cons, List.length_nil]; omega) (by decide : (47:Nat) < 183) ?_
        refine AXl.qt rfl (by decide : (5:Nat) < 183) (Still.qt (s_assign _)) ?_
        refine AXl.nm_e0 ?_
        refine AXl.nil ?_
        refine hK17 _ ?_
        clear hK17 K17
        refine EinBlock.n ?_
        refine Ethen.n ?_
        refine hK12 _ ?_
        clear hK12 K12
        refine AXc.region' fun K18 hK18 => ?_
        refine AXl.qt rfl (by decide : (19:Nat) < 183) (Still.qt (s_move _)) ?_
        refine AXl.qt rfl (by decide : (20:Nat) < 183) (Still.qt (s_iar _ _ _ _ _ rfl rfl rfl (IntWalk.i64_in _ ⟨(by first | omega | (simp only [List.length_map, List.length_cons, List.length_nil, List.length_append, List.length_take, List.length_drop]; omega)), (by first | omega | (simp only [List.length_map, List.length_cons, List.length_nil, List.length_append, List.length_take, List.length_drop]; omega))⟩))) ?_
        refine AXl.qt rfl (by decide : (6:Nat) < 183) (Still.qt (s_assign _)) ?_
        refine AXl.nm_e0 ?_
        refine AXl.nil ?_
        refine hK18 _ ?_
        clear hK18 K18
        refine Ethen.n ?_
        clear hK5 K5
        rw [must_next r.fields l hk] at hinv
        first
          | (refine ⟨(k + 1, ver + 1, out ++ [⟨1, -1, l[k].tag, 0⟩]), ⟨by omega, ?_⟩, by first | omega | (dsimp only; omega), (by refine ⟨?_, ?_, ?_, ?_, ?_, ?_⟩ <;> (simp [subE, lk, AV.low, C.low, LB.low, Problem.ds, TagRule.ds, Fld.ds, Sub.ds, Rec.ds] <;> fail))⟩
             simp only [hc11, hg15, hc16, Bool.true_and, Bool.and_true, Bool.not_true, Bool.not_false, Bool.false_and, Bool.and_false, Bool.and_self, if_true, if_false, ↓reduceIte, Bool.false_eq_true, List.nil_append, List.append_assoc] at hinv ⊢
             first | exact hinv | simpa using hinv)
          | (refine ⟨(k + 1, ver, out), ⟨by omega, ?_⟩, by first | omega | (dsimp only; omega), (by refine ⟨?_, ?_, ?_, ?_, ?_, ?_⟩ <;> (simp [subE, lk, AV.low, C.low, LB.low, Problem.ds, TagRule.ds, Fld.ds, Sub.ds, Rec.ds] <;> fail))⟩
             simp only [hc11, hg15, hc16, Bool.true_and, Bool.and_true, Bool.not_true, Bool.not_false, Bool.false_and, Bool.and_false, Bool.and_self, if_true, if_false, ↓reduceIte, Bool.false_eq_true, List.nil_append, List.append_assoc] at hinv ⊢
             first | exact hinv | simpa using hinv)
      · try simp only [decide_eq_true_eq, decide_eq_false_iff_not, Bool.not_eq_true', Bool.not_eq_false', Int.not_lt, Int.not_le, ne_eq, Decidable.not_not, bne_iff_ne, beq_iff_eq, Bool.and_eq_true, Bool.or_eq_true, Bool.and_eq_false_iff, Bool.or_eq_false_iff, Bool.not_not, Ax.u8eq] at hc16
        refine AXc.skip ?_
        refine EinBlock.n ?_
        refine Ethen.n ?_
        refine hK12 _ ?_
        clear hK12 K12
        refine AXc.region' fun K19 hK19 => ?_
        refine AXl.qt rfl (by decide : (19:Nat) < 183) (Still.qt (s_move _)) ?_
        refine AXl.qt rfl (by decide : (20:Nat) < 183) (Still.qt (s_iar _ _ _ _ _ rfl rfl rfl (IntWalk.i64_in _ ⟨(by first | omega | (simp only [List.length_map, List.length_cons, List.length_nil, List.length_append, List.length_take, List.length_drop]; omega)), (by first | omega | (simp only [List.length_map, List.length_cons, List.length_nil, List.length_append, List.length_take, List.length_drop]; omega))⟩))) ?_
        refine AXl.qt rfl (by decide : (6:Nat) < 183) (Still.qt (s_assign _)) ?_
        refine AXl.nm_e0 ?_
        refine AXl.nil ?_
        refine hK19 _ ?_
        clear hK19 K19
        refine Ethen.n ?_
        clear hK5 K5
        rw [must_next r.fields l hk] at hinv
        first
          | (refine ⟨(k + 1, ver + 1, out ++ [⟨1, -1, l[k].tag, 0⟩]), ⟨by omega, ?_⟩, by first | omega | (dsimp only; omega), (by refine ⟨?_, ?_, ?_, ?_, ?_, ?_⟩ <;> (simp [subE, lk, AV.low, C.low, LB.low, Problem.ds, TagRule.ds, Fld.ds, Sub.ds, Rec.ds] <;> fail))⟩
             simp only [hc11, hg15, hc16, Bool.true_and, Bool.and_true, Bool.not_true, Bool.not_false, Bool.false_and, Bool.and_false, Bool.and_self, if_true, if_false, ↓reduceIte, Bool.false_eq_true, List.nil_append, List.append_assoc] at hinv ⊢
             first | exact hinv | simpa using hinv)
          | (refine ⟨(k + 1, ver, out), ⟨by omega, ?_⟩, by first | omega | (dsimp only; omega), (by refine ⟨?_, ?_, ?_, ?_, ?_, ?_⟩ <;> (simp [subE, lk, AV.low, C.low, LB.low, Problem.ds, TagRule.ds, Fld.ds, Sub.ds, Rec.ds] <;> fail))⟩
             simp only [hc11, hg15, hc16, Bool.true_and, Bool.and_true, Bool.not_true, Bool.not_false, Bool.false_and, Bool.and_false, Bool.and_self, if_true, if_false, ↓reduceIte, Bool.false_eq_true, List.nil_append, List.append_assoc] at hinv ⊢
             first | exact hinv | simpa using hinv)
    · try simp only [decide_eq_true_eq, decide_eq_false_iff_not, Bool.not_eq_true', Bool.not_eq_false', Int.not_lt, Int.not_le, ne_eq, Decidable.not_not, bne_iff_ne, beq_iff_eq, Bool.and_eq_true, Bool.or_eq_true, Bool.and_eq_false_iff, Bool.or_eq_false_iff, Bool.not_not, Ax.u8eq] at hg15
      simp only [del, ↓reduceIte, Nat.reduceEqDiff]
      refine AXd.skip rfl ?_
      refine AXd.skip rfl ?_
      refine AXd.skip rfl ?_
      refine AXd.skip rfl ?_
      refine AXd.skip rfl ?_
      refine AXd.skip rfl ?_
      refine AXd.skip rfl ?_
      refine AXd.skip rfl ?_
      refine AXd.skip rfl ?_
      refine AXd.skip rfl ?_
      refine AXd.skip rfl ?_
      refine AXd.op rfl (Still.qt (s_pick_f _ _ _ rfl)) ?_
      refine AXd.nm_e0 ?_
      refine AXd.nil ?_
      refine AXl.nil ?_
      refine hK14 _ ?_
      clear hK14 K14
      refine Ethen.n ?_
      refine hK13 _ ?_
      clear hK13 K13
      refine AXc.cond_f rfl ?_
      refine AXc.skip ?_
      refine EinBlock.n ?_
      refine Ethen.n ?_
      refine hK12 _ ?_
      clear hK12 K12
      refine AXc.region' fun K20 hK20 => ?_
      refine AXl.qt rfl (by decide : (19:Nat) < 183) (Still.qt (s_move _)) ?_
      refine AXl.qt rfl (by decide : (20:Nat) < 183) (Still.qt (s_iar _ _ _ _ _ rfl rfl rfl (IntWalk.i64_in _ ⟨(by first | omega | (simp only [List.length_map, List.length_cons, List.length_nil, List.length_append, List.length_take, List.length_drop]; omega)), (by first | omega | (simp only [List.length_map, List.length_cons, List.length_nil, List.length_append, List.length_take, List.length_drop]; omega))⟩))) ?_
      refine AXl.qt rfl (by decide : (6:Nat) < 183) (Still.qt (s_assign _)) ?_
      refine AXl.nm_e0 ?_
      refine AXl.nil ?_
      refine hK20 _ ?_
      clear hK20 K20
      refine Ethen.n ?_
      clear hK5 K5
      rw [must_next r.fields l hk] at hinv
      first
        | (refine ⟨(k + 1, ver + 1, out ++ [⟨1, -1, l[k].tag, 0⟩]), ⟨by omega, ?_⟩, by first | omega | (dsimp only; omega), (by refine ⟨?_, ?_, ?_, ?_, ?_, ?_⟩ <;> (simp [subE, lk, AV.low, C.low, LB.low, Problem.ds, TagRule.ds, Fld.ds, Sub.ds, Rec.ds] <;> fail))⟩
           simp only [hc11, hg15, Bool.true_and, Bool.and_true, Bool.not_true, Bool.not_false, Bool.false_and, Bool.and_false, Bool.and_self, if_true, if_false, ↓reduceIte, Bool.false_eq_true, List.nil_append, List.append_assoc] at hinv ⊢
           first | exact hinv | simpa using hinv)
        | (refine ⟨(k + 1, ver, out), ⟨by omega, ?_⟩, by first | omega | (dsimp only; omega), (by refine ⟨?_, ?_, ?_, ?_, ?_, ?_⟩ <;> (simp [subE, lk, AV.low, C.low, LB.low, Problem.ds, TagRule.ds, Fld.ds, Sub.ds, Rec.ds] <;> fail))⟩
           simp only [hc11, hg15, Bool.true_and, Bool.and_true, Bool.not_true, Bool.not_false, Bool.false_and, Bool.and_false, Bool.and_self, if_true, if_false, ↓reduceIte, Bool.false_eq_true, List.nil_append, List.append_assoc] at hinv ⊢
           first | exact hinv | simpa using hinv)
  · try simp only [decide_eq_true_eq, decide_eq_false_iff_not, Bool.not_eq_true', Bool.not_eq_false', Int.not_lt, Int.not_le, ne_eq, Decidable.not_not, bne_iff_ne, beq_iff_eq, Bool.and_eq_true, Bool.or_eq_true, Bool.and_eq_false_iff, Bool.or_eq_false_iff, Bool.not_not, Ax.u8eq] at hc11
    refine AXc.exit ?_
    refine Ethen.e ?_
    clear hK8 K8
    refine Ethen.e ?_
    refine EinBlock.hit ?_
    refine Ethen.n ?_
    refine hK5 _ ?_
    clear hK5 K5
    refine AXc.seq fun K21 hK21 => ?_
    refine AXc.seq fun K22 hK22 => ?_
    refine AXc.region' fun K23 hK23 => ?_
    refine AXl.qt rfl (by decide : (7:Nat) < 183) (Still.qt (s_assign _)) ?_
    refine AXl.nm_e0 ?_
    refine AXl.nil ?_
    refine hK23 _ ?_
    clear hK23 K23
    refine Ethen.n ?_
    refine hK22 _ ?_
    clear hK22 K22
    refine AXc.block ?_
    refine AXc.loop (S := Nat × Nat × List Problem) (fun ⟨k, ver, out⟩ => ⟨[(0, .c (.d (.lst 7 (l.map TagRule.ds)))), (3, .c (.loc 0 0)), (5, .c (.own 1 ver)), (7, .c (.d (.int .i64 k)))], [.box 27 (r.ds.map C.d), .row 41 4 (out.map Problem.ds) ver]⟩) (fun ⟨k, ver, out⟩ => k ≤ r.fields.length ∧ out ++ fldsP l (r.fields.take k) (r.fields.drop k) = mustP r.fields l ++ fldsP l [] r.fields) (fun ⟨k, ver, out⟩ => r.fields.length - k) (0, ver, out) ⟨by omega, by simpa [drop_end (show ¬ k < l.length by omega), mustP] using hinv⟩ (by refine ⟨?_, ?_, ?_, ?_, ?_, ?_⟩ <;> (simp [subE, lk, AV.low, C.low, LB.low, Problem.ds, TagRule.ds, Fld.ds, Sub.ds, Rec.ds] <;> fail)) ?_
    clear hinv hb hk0
    rintro ⟨k, ver, out⟩ ⟨hk0, hinv⟩
    have hb := congrArg List.length hinv; rw [List.length_append, List.length_append] at hb
    try simp only [Problem.ds, TagRule.ds, Fld.ds, Sub.ds, Rec.ds, indexByte_any, indexByte_any', ← List.map_take, Nat.sub_zero, tagd_pos, tagd_zero, cnt_pos, cnt_zero, List.take_length, List.map_cons, List.map_nil]
    refine AXc.seq fun K24 hK24 => ?_
    refine AXc.seq fun K25 hK25 => ?_
    refine AXc.region' fun K26 hK26 => ?_
    refine AXl.qt rfl (by decide : (48:Nat) < 183) (Still.qt (s_move _)) ?_
    first
      | refine AXl.qt rfl (by decide : (49:Nat) < 183) (Still.qt (s_field_loc _ _ _ fdT_27_4_e rfl)) ?_
      | refine AXl.qt rfl (by decide : (49:Nat) < 183) (Still.qt (s_field_ptr _ _ _ fdT_27_4_e rfl)) ?_
      | refine AXl.qt rfl (by decide : (49:Nat) < 183) (Still.qt (s_field_row _ _ _ fdT_27_4_e rfl rfl)) ?_
    first
      | refine AXl.qt rfl (by decide : (50:Nat) < 183) (Still.qt (s_load1 _ _ ldT_25_e rfl)) ?_
      | refine AXl.qt rfl (by decide : (50:Nat) < 183) (Still.qt (s_load1_row _ _ ldT_25_e rfl rfl (by first | rfl | exact List.getElem?_eq_getElem (by omega)) rfl)) ?_
    first
      | refine AXl.qt rfl (by decide : (51:Nat) < 183) (Still.qt (s_len _ _ Tryd.underlying25 rfl)) ?_
      | refine AXl.qt rfl (by decide : (51:Nat) < 183) (Still.qt (s_len_nil _ _ Tryd.underlying25 rfl)) ?_
    refine AXl.qt rfl (by decide : (52:Nat) < 183) (Still.qt (s_icmp _ _ _ _ _ rfl rfl rfl)) ?_
    refine AXl.nm_e0 ?_
    refine AXl.nil ?_
    refine hK26 _ ?_
    clear hK26 K26
    refine Ethen.n ?_
    refine hK25 _ ?_
    clear hK25 K25
    refine AXc.cond rfl (fun hc27 => ?_) (fun hc27 => ?_)
    · try simp only [decide_eq_true_eq, decide_eq_false_iff_not, Bool.not_eq_true', Bool.not_eq_false', Int.not_lt, Int.not_le, ne_eq, Decidable.not_not, bne_iff_ne, beq_iff_eq, Bool.and_eq_true, Bool.or_eq_true, Bool.and_eq_false_iff, Bool.or_eq_false_iff, Bool.not_not, Ax.u8eq] at hc27
      have hk : k < r.fields.length := by omega
      have hokf : OkF r.fields[k] := hf.all _ (List.getElem_mem _)
      have hokr := okGet hl r.fields[k].tag
      have hfl := fieldP_len (getR l r.fields[k].tag) r.fields[k] k
      have hsb := hokf.subs
      have hnd := hokr.needs
      refine AXc.skip ?_
      refine Ethen.n ?_
      refine hK24 _ ?_
      clear hK24 K24
      refine AXc.seq fun K28 hK28 => ?_
      refine AXc.block ?_
      refine AXc.seq fun K29 hK29 => ?_
      refine AXc.region' fun K30 hK30 => ?_
      first
        | refine AXl.qt rfl (by decide : (55:Nat) < 183) (Still.qt (s_field_loc _ _ _ fdT_27_4_e rfl)) ?_
        | refine AXl.qt rfl (by decide : (55:Nat) < 183) (Still.qt (s_field_ptr _ _ _ fdT_27_4_e rfl)) ?_
        | refine AXl.qt rfl (by decide : (55:Nat) < 183) (Still.qt (s_field_row _ _ _ fdT_27_4_e rfl rfl)) ?_
      first
        | refine AXl.qt rfl (by decide : (56:Nat) < 183) (Still.qt (s_load1 _ _ ldT_25_e rfl)) ?_
        | refine AXl.qt rfl (by decide : (56:Nat) < 183) (Still.qt (s_load1_row _ _ ldT_25_e rfl rfl (by first | rfl | exact List.getElem?_eq_getElem (by omega)) rfl)) ?_
      refine AXl.qt rfl (by decide : (57:Nat) < 183) (Still.qt (s_move _)) ?_
      first
        | refine AXl.qt rfl (by decide : (58:Nat) < 183) (Still.qt (s_index _ _ _ slT_25_e (.inl rfl) rfl rfl (by first | omega | (simp only [List.length_map, List.length_cons, List.length_nil, List.length_append, List.length_take, List.length_drop]; omega)) (List.getElem?_eq_getElem (by first | omega | (simp only [List.length_map, List.length_cons, List.length_nil, List.length_append, List.length_take, List.length_drop]; omega))))) ?_
        | refine AXl.qt rfl (by decide : (58:Nat) < 183) (Still.qt (s_index _ _ _ slT_25_e (.inr rfl) rfl rfl (by first | omega | (simp only [List.length_map, List.length_cons, List.length_nil, List.length_append, List.length_take, List.length_drop]; omega)) (List.getElem?_eq_getElem (by first | omega | (simp only [List.length_map, List.length_cons, List.length_nil, List.length_append, List.length_take, List.length_drop]; omega))))) ?_
        | refine AXl.qt rfl (by decide : (58:Nat) < 183) (Still.qt (s_index_own _ _ _ slT_25_e rfl rfl rfl rfl (by first | omega | (simp only [List.length_map, List.length_cons, List.length_nil, List.length_append, List.length_take, List.length_drop]; omega)) (by first | omega | (simp only [List.length_map, List.length_cons, List.length_nil, List.length_append, List.length_take, List.length_drop]; omega)))) ?_
      refine AXl.nm_e0 ?_
      first
        | refine AXl.qt rfl (by decide : (59:Nat) < 183) (Still.qt (s_loadN _ _ ldT_45_e rfl (by simp [Problem.ds, TagRule.ds, Fld.ds, Sub.ds, Rec.ds]))) ?_
        | refine AXl.qt rfl (by decide : (59:Nat) < 183) (Still.qt (s_loadN_row _ _ ldT_45_e rfl rfl (by first | rfl | exact List.getElem?_eq_getElem (by omega)) (by simp [Problem.ds, TagRule.ds, Fld.ds, Sub.ds, Rec.ds]))) ?_
      refine AXl.alloc zC_45_e (by decide : (8:Nat) < 183) ?_
      refine AXl.nm_e0 ?_
      first
        | refine AXl.store rfl rfl rfl sz_45_e (by simp [Problem.ds, TagRule.ds, Fld.ds, Sub.ds, Rec.ds]) rfl ?_
        | refine AXl.store_row rfl rfl (by first | rfl | exact List.getElem?_eq_getElem (by omega)) rfl sz_45_e (by simp [Problem.ds, TagRule.ds, Fld.ds, Sub.ds, Rec.ds]) rfl ?_
      refine AXl.nm_e0 ?_
      refine AXl.nil ?_
      refine hK30 _ ?_
      clear hK30 K30
      refine Ethen.n ?_
      refine hK29 _ ?_
      clear hK29 K29
      refine AXc.seq fun K31 hK31 => ?_
      refine AXc.region' fun K32 hK32 => ?_
      refine AXl.qt rfl (by decide : (61:Nat) < 183) (Still.qt (s_move _)) ?_
      first
        | refine AXl.qt rfl (by decide : (62:Nat) < 183) (Still.qt (s_field_loc _ _ _ fdT_45_0_e rfl)) ?_
        | refine AXl.qt rfl (by decide : (62:Nat) < 183) (Still.qt (s_field_ptr _ _ _ fdT_45_0_e rfl)) ?_
        | refine AXl.qt rfl (by decide : (62:Nat) < 183) (Still.qt (s_field_row _ _ _ fdT_45_0_e rfl rfl)) ?_
      first
        | refine AXl.qt rfl (by decide : (63:Nat) < 183) (Still.qt (s_load1 _ _ ldT_9_e rfl)) ?_
        | refine AXl.qt rfl (by decide : (63:Nat) < 183) (Still.qt (s_load1_row _ _ ldT_9_e rfl rfl (by first | rfl | exact List.getElem?_eq_getElem (by omega)) rfl)) ?_
      refine AXl.nm_e0 ?_
      refine AXl.qt rfl (by decide : (64:Nat) < 183) (q_call (c11 l _ (by omega)) (.cons (by first | exact ArgOk.d | exact ArgOk.bor rfl | exact ArgOk.agg rfl | exact ArgOk.agg (toDs_map _) | exact ArgOk.nil_bor | exact ArgOk.nil_lst | exact ArgOk.fn | exact ArgOk.ptr rfl rfl | exact ArgOk.aggn rfl (by repeat first | exact .nil | refine .cons (.refl _) ?_ | refine .cons (.nil _) ?_)) (.cons (by first | exact ArgOk.d | exact ArgOk.bor rfl | exact ArgOk.agg rfl | exact ArgOk.agg (toDs_map _) | exact ArgOk.nil_bor | exact ArgOk.nil_lst | exact ArgOk.fn | exact ArgOk.ptr rfl rfl | exact ArgOk.aggn rfl (by repeat first | exact .nil | refine .cons (.refl _) ?_ | refine .cons (.nil _) ?_)) .nil))) ?_
      refine AXl.qt rfl (by decide : (60:Nat) < 183) (Still.qt (s_move _)) ?_
      refine AXl.qt rfl (by decide : (65:Nat) < 183) (Still.qt (s_extract _ _ rfl rfl (by intro us h; cases h))) ?_
      refine AXl.qt rfl (by decide : (66:Nat) < 183) (Still.qt (s_extract _ _ rfl rfl (by intro us h; cases h))) ?_
      refine AXl.alloc zC_29_e (by decide : (9:Nat) < 183) ?_
      refine AXl.nm_e0 ?_
      first
        | refine AXl.store rfl rfl rfl sz_29_e (by simp [Problem.ds, TagRule.ds, Fld.ds, Sub.ds, Rec.ds]) rfl ?_
        | refine AXl.store_row rfl rfl (by first | rfl | exact List.getElem?_eq_getElem (by omega)) rfl sz_29_e (by simp [Problem.ds, TagRule.ds, Fld.ds, Sub.ds, Rec.ds]) rfl ?_
      refine AXl.qt rfl (by decide : (10:Nat) < 183) (Still.qt (s_assign _)) ?_
      refine AXl.nm_e0 ?_
      refine AXl.nil ?_
      refine hK32 _ ?_
      clear hK32 K32
      refine Ethen.n ?_
      refine hK31 _ ?_
      clear hK31 K31
      refine AXc.seq fun K33 hK33 => ?_
      refine AXc.seq fun K34 hK34 => ?_
      refine AXc.region' fun K35 hK35 => ?_
      refine AXl.qt rfl (by decide : (67:Nat) < 183) (Still.qt (s_move _)) ?_
      refine AXl.qt rfl (by decide : (68:Nat) < 183) (Still.qt (s_not _ _ rfl)) ?_
      refine AXl.nm_e0 ?_
      refine AXl.nil ?_
      refine hK35 _ ?_
      clear hK35 K35
      refine Ethen.n ?_
      refine hK34 _ ?_
      clear hK34 K34
      refine AXc.cond rfl (fun hc36 => ?_) (fun hc36 => ?_)
      · try simp only [decide_eq_true_eq, decide_eq_false_iff_not, Bool.not_eq_true', Bool.not_eq_false', Int.not_lt, Int.not_le, ne_eq, Decidable.not_not, bne_iff_ne, beq_iff_eq, Bool.and_eq_true, Bool.or_eq_true, Bool.and_eq_false_iff, Bool.or_eq_false_iff, Bool.not_not, Ax.u8eq] at hc36
        refine AXc.seq fun K37 hK37 => ?_
        refine AXc.region' fun K38 hK38 => ?_
        refine AXl.qt rfl (by decide : (69:Nat) < 183) (Still.qt (s_move _)) ?_
        refine AXl.qt rfl (by decide : (70:Nat) < 183) (Still.qt (s_move _)) ?_
        first
          | refine AXl.qt rfl (by decide : (71:Nat) < 183) (Still.qt (s_field_loc _ _ _ fdT_45_0_e rfl)) ?_
          | refine AXl.qt rfl (by decide : (71:Nat) < 183) (Still.qt (s_field_ptr _ _ _ fdT_45_0_e rfl)) ?_
          | refine AXl.qt rfl (by decide : (71:Nat) < 183) (Still.qt (s_field_row _ _ _ fdT_45_0_e rfl rfl)) ?_
        first
          | refine AXl.qt rfl (by decide : (72:Nat) < 183) (Still.qt (s_load1 _ _ ldT_9_e rfl)) ?_
          | refine AXl.qt rfl (by decide : (72:Nat) < 183) (Still.qt (s_load1_row _ _ ldT_9_e rfl rfl (by first | rfl | exact List.getElem?_eq_getElem (by omega)) rfl)) ?_
        refine AXl.nm_e0 ?_
        refine AXl.qt rfl (by decide : (73:Nat) < 183) (q_call (c27 2 _ _ 0) (.cons (by first | exact ArgOk.d | exact ArgOk.bor rfl | exact ArgOk.agg rfl | exact ArgOk.agg (toDs_map _) | exact ArgOk.nil_bor | exact ArgOk.nil_lst | exact ArgOk.fn | exact ArgOk.ptr rfl rfl | exact ArgOk.aggn rfl (by repeat first | exact .nil | refine .cons (.refl _) ?_ | refine .cons (.nil _) ?_)) (.cons (by first | exact ArgOk.d | exact ArgOk.bor rfl | exact ArgOk.agg rfl | exact ArgOk.agg (toDs_map _) | exact ArgOk.nil_bor | exact ArgOk.nil_lst | exact ArgOk.fn | exact ArgOk.ptr rfl rfl | exact ArgOk.aggn rfl (by repeat first | exact .nil | refine .cons (.refl _) ?_ | refine .cons (.nil _) ?_)) (.cons (by first | exact ArgOk.d | exact ArgOk.bor rfl | exact ArgOk.agg rfl | exact ArgOk.agg (toDs_map _) | exact ArgOk.nil_bor | exact ArgOk.nil_lst | exact ArgOk.fn | exact ArgOk.ptr rfl rfl | exact ArgOk.aggn rfl (by repeat first | exact .nil | refine .cons (.refl _) ?_ | refine .cons (.nil _) ?_)) (.cons (by first | exact ArgOk.d | exact ArgOk.bor rfl | exact ArgOk.agg rfl | exact ArgOk.agg (toDs_map _) | exact ArgOk.nil_bor | exact ArgOk.nil_lst | exact ArgOk.fn | exact ArgOk.ptr rfl rfl | exact ArgOk.aggn rfl (by repeat first | exact .nil | refine .cons (.refl _) ?_ | refine .cons (.nil _) ?_)) .nil))))) ?_
        refine AXl.qt rfl (by decide : (74:Nat) < 183) (q_buildSlice _ _ _ apT_35_e rfl rfl (by decide)) ?_
        first
          | refine AXl.append apT_35_e rfl rfl rfl (by simp only [List.length_append, List.length_map, List.length_cons, List.length_nil]; omega) (by simp only [List.length_append, List.length_map, List.length_cons, List.length_nil]; omega) (by decide : (75:Nat) < 183) ?_
          | refine AXl.append_nil apT_35_e rfl (by decide) rfl (by simp only [List.length_append, List.length_map, List.length_cons, List.length_nil]; omega) (by simp only [List.length_append, List.length_map, List.length_cons, List.length_nil]; omega) (by decide : (75:Nat) < 183) ?_
        refine AXl.qt rfl (by decide : (5:Nat) < 183) (Still.qt (s_assign _)) ?_
        refine AXl.nm_e0 ?_
        refine AXl.nil ?_
        refine hK38 _ ?_
        clear hK38 K38
        refine Ethen.n ?_
        refine hK37 _ ?_
        clear hK37 K37
        refine AXc.exit ?_
        refine Ethen.e ?_
        clear hK33 K33
        refine EinBlock.hit ?_
        refine Ethen.n ?_
        refine hK28 _ ?_
        clear hK28 K28
        refine AXc.region' fun K39 hK39 => ?_
        refine AXl.qt rfl (by decide : (53:Nat) < 183) (Still.qt (s_move _)) ?_
        refine AXl.qt rfl (by decide : (54:Nat) < 183) (Still.qt (s_iar _ _ _ _ _ rfl rfl rfl (IntWalk.i64_in _ ⟨(by first | omega | (simp only [List.length_map, List.length_cons, List.length_nil, List.length_append, List.length_take, List.length_drop]; omega)), (by first | omega | (simp only [List.length_map, List.length_cons, List.length_nil, List.length_append, List.length_take, List.length_drop]; omega))⟩))) ?_
        refine AXl.qt rfl (by decide : (7:Nat) < 183) (Still.qt (s_assign _)) ?_
        refine AXl.nm_e0 ?_
        refine AXl.nil ?_
        refine hK39 _ ?_
        clear hK39 K39
        refine Ethen.n ?_
        clear hK21 K21
        first
          | (refine ⟨(k + 1, ver + 1, out ++ [⟨2, k, r.fields[k].tag, 0⟩]), ?_⟩
             refine ⟨⟨?_, ?_⟩, ?_, ?_⟩
             · omega
             · rw [flds_next l r.fields hk] at hinv; unfold oneP at hinv
               simp only [hc11, hc27, hc36, Bool.true_and, Bool.and_true, Bool.not_true, Bool.not_false, Bool.false_and, Bool.and_false, Bool.and_self, if_true, if_false, ↓reduceIte, Bool.false_eq_true, List.nil_append, List.append_assoc] at hinv ⊢
               exact hinv
             · first | omega | (dsimp only; omega)
             · refine ⟨?_, ?_, ?_, ?_, ?_, ?_⟩ <;> (simp [subE, lk, AV.low, C.low, LB.low, Problem.ds, TagRule.ds, Fld.ds, Sub.ds, Rec.ds] <;> fail))
          | (refine ⟨(k + 1, ver4 + 1, out4 ++ [⟨7, k, r.fields[k].tag, 0⟩]), ?_⟩
             refine ⟨⟨?_, ?_⟩, ?_, ?_⟩
             · omega
             · rw [drop_end (by omega), needP, List.nil_append, authP] at hinv4
               have hcd : (r.fields[k].auth ≠ 0 ∧ (getR l r.fields[k].tag).auth = 0) = True := by simp only [hc11, hc27, hc36, ne_eq, not_false_eq_true, and_self, and_true, true_and]
               simp only [hcd, if_true] at hinv4
               rw [List.append_assoc]; exact hinv4
             · first | omega | (dsimp only; omega)
             · refine ⟨?_, ?_, ?_, ?_, ?_, ?_⟩ <;> (simp [subE, lk, AV.low, C.low, LB.low, Problem.ds, TagRule.ds, Fld.ds, Sub.ds, Rec.ds] <;> fail))
          | (refine ⟨(k + 1, ver4, out4), ?_⟩
             refine ⟨⟨?_, ?_⟩, ?_, ?_⟩
             · omega
             · rw [drop_end (by omega), needP, List.nil_append, authP] at hinv4
               have hcd : (r.fields[k].auth ≠ 0 ∧ (getR l r.fields[k].tag).auth = 0) = False := by simp only [hc11, hc27, hc36, ne_eq, not_false_eq_true, not_true_eq_false, and_false, false_and, and_self]
               simp only [hcd, if_false, List.nil_append] at hinv4
               exact hinv4
             · first | omega | (dsimp only; omega)
             · refine ⟨?_, ?_, ?_, ?_, ?_, ?_⟩ <;> (simp [subE, lk, AV.low, C.low, LB.low, Problem.ds, TagRule.ds, Fld.ds, Sub.ds, Rec.ds] <;> fail))
      · try simp only [decide_eq_true_eq, decide_eq_false_iff_not, Bool.not_eq_true', Bool.not_eq_false', Int.not_lt, Int.not_le, ne_eq, Decidable.not_not, bne_iff_ne, beq_iff_eq, Bool.and_eq_true, Bool.or_eq_true, Bool.and_eq_false_iff, Bool.or_eq_false_iff, Bool.not_not, Ax.u8eq] at hc36
        refine AXc.skip ?_
        refine Ethen.n ?_
        refine hK33 _ ?_
        clear hK33 K33
        refine AXc.seq fun K40 hK40 => ?_
        refine AXc.seq fun K41 hK41 => ?_
        refine AXc.region' fun K42 hK42 => ?_
        first
          | refine AXl.qt rfl (by decide : (76:Nat) < 183) (Still.qt (s_field_loc _ _ _ fdT_29_1_e rfl)) ?_
          | refine AXl.qt rfl (by decide : (76:Nat) < 183) (Still.qt (s_field_ptr _ _ _ fdT_29_1_e rfl)) ?_
          | refine AXl.qt rfl (by decide : (76:Nat) < 183) (Still.qt (s_field_row _ _ _ fdT_29_1_e rfl rfl)) ?_
        first
          | refine AXl.qt rfl (by decide : (77:Nat) < 183) (Still.qt (s_load1 _ _ ldT_4_e rfl)) ?_
          | refine AXl.qt rfl (by decide : (77:Nat) < 183) (Still.qt (s_load1_row _ _ ldT_4_e rfl rfl (by first | rfl | exact List.getElem?_eq_getElem (by omega)) rfl)) ?_
        refine AXl.qt rfl (by decide : (78:Nat) < 183) (Still.qt (s_not _ _ rfl)) ?_
        refine AXl.qt rfl (by decide : (79:Nat) < 183) (Still.qt (s_move _)) ?_
        refine AXl.nm_e0 ?_
        refine AXl.split 79 _ rfl (fun hg43 => ?_) (fun hg43 => ?_)
        · try simp only [decide_eq_true_eq, decide_eq_false_iff_not, Bool.not_eq_true', Bool.not_eq_false', Int.not_lt, Int.not_le, ne_eq, Decidable.not_not, bne_iff_ne, beq_iff_eq, Bool.and_eq_true, Bool.or_eq_true, Bool.and_eq_false_iff, Bool.or_eq_false_iff, Bool.not_not, Ax.u8eq] at hg43
          simp only [del, ↓reduceIte, Nat.reduceEqDiff]
          first
            | refine AXl.qt_guard (by decide : (80:Nat) < 183) rfl (by kernel_rfl) (Still.qt (s_loadN _ _ ldT_27_e rfl (by simp [Problem.ds, TagRule.ds, Fld.ds, Sub.ds, Rec.ds]))) ?_
            | refine AXl.qt_guard (by decide : (80:Nat) < 183) rfl (by kernel_rfl) (Still.qt (s_loadN_row _ _ ldT_27_e rfl rfl (by first | rfl | exact List.getElem?_eq_getElem (by omega)) (by simp [Problem.ds, TagRule.ds, Fld.ds, Sub.ds, Rec.ds]))) ?_
          refine AXl.qt_guard (by decide : (81:Nat) < 183) rfl (by kernel_rfl) (Still.qt (s_move _)) ?_
          first
            | refine AXl.qt_guard (by decide : (82:Nat) < 183) rfl (by kernel_rfl) (Still.qt (s_field_loc _ _ _ fdT_45_0_e rfl)) ?_
            | refine AXl.qt_guard (by decide : (82:Nat) < 183) rfl (by kernel_rfl) (Still.qt (s_field_ptr _ _ _ fdT_45_0_e rfl)) ?_
            | refine AXl.qt_guard (by decide : (82:Nat) < 183) rfl (by kernel_rfl) (Still.qt (s_field_row _ _ _ fdT_45_0_e rfl rfl)) ?_
          first
            | refine AXl.qt_guard (by decide : (83:Nat) < 183) rfl (by kernel_rfl) (Still.qt (s_load1 _ _ ldT_9_e rfl)) ?_
            | refine AXl.qt_guard (by decide : (83:Nat) < 183) rfl (by kernel_rfl) (Still.qt (s_load1_row _ _ ldT_9_e rfl rfl (by first | rfl | exact List.getElem?_eq_getElem (by omega)) rfl)) ?_
          refine AXl.nm_e0 ?_
          refine AXl.qt_guard (by decide : (84:Nat) < 183) rfl (by kernel_rfl) (q_call (c26 r _ _ ?hs ?ht) (.cons (by first | exact ArgOk.d | exact ArgOk.bor rfl | exact ArgOk.agg rfl | exact ArgOk.agg (toDs_map _) | exact ArgOk.nil_bor | exact ArgOk.nil_lst | exact ArgOk.fn | exact ArgOk.ptr rfl rfl | exact ArgOk.aggn rfl (by repeat first | exact .nil | refine .cons (.refl _) ?_ | refine .cons (.nil _) ?_)) (.cons (by first | exact ArgOk.d | exact ArgOk.bor rfl | exact ArgOk.agg rfl | exact ArgOk.agg (toDs_map _) | exact ArgOk.nil_bor | exact ArgOk.nil_lst | exact ArgOk.fn | exact ArgOk.ptr rfl rfl | exact ArgOk.aggn rfl (by repeat first | exact .nil | refine .cons (.refl _) ?_ | refine .cons (.nil _) ?_)) (.cons (by first | exact ArgOk.d | exact ArgOk.bor rfl | exact ArgOk.agg rfl | exact ArgOk.agg (toDs_map _) | exact ArgOk.nil_bor | exact ArgOk.nil_lst | exact ArgOk.fn | exact ArgOk.ptr rfl rfl | exact ArgOk.aggn rfl (by repeat first | exact .nil | refine .cons (.refl _) ?_ | refine .cons (.nil _) ?_)) .nil)))) ?_
          case hs => omega
          case ht => omega
          refine AXl.qt_guard (by decide : (85:Nat) < 183) rfl (by kernel_rfl) (Still.qt (s_icmp _ _ _ _ _ rfl rfl rfl)) ?_
          refine AXl.qt rfl (by decide : (86:Nat) < 183) (Still.qt (s_pick_t _ _ _ rfl)) ?_
          refine AXl.nm_e0 ?_
          refine AXl.nil ?_
          refine hK42 _ ?_
          clear hK42 K42
          refine Ethen.n ?_
          refine hK41 _ ?_
          clear hK41 K41
          refine AXc.cond rfl (fun hc44 => ?_) (fun hc44 => ?_)
          · try simp only [decide_eq_true_eq, decide_eq_false_iff_not, Bool.not_eq_true', Bool.not_eq_false', Int.not_lt, Int.not_le, ne_eq, Decidable.not_not, bne_iff_ne, beq_iff_eq, Bool.and_eq_true, Bool.or_eq_true, Bool.and_eq_false_iff, Bool.or_eq_false_iff, Bool.not_not, Ax.u8eq] at hc44
            refine AXc.region' fun K45 hK45 => ?_
            refine AXl.qt rfl (by decide : (87:Nat) < 183) (Still.qt (s_move _)) ?_
            refine AXl.qt rfl (by decide : (88:Nat) < 183) (Still.qt (s_move _)) ?_
            first
              | refine AXl.qt rfl (by decide : (89:Nat) < 183) (Still.qt (s_field_loc _ _ _ fdT_45_0_e rfl)) ?_
              | refine AXl.qt rfl (by decide : (89:Nat) < 183) (Still.qt (s_field_ptr _ _ _ fdT_45_0_e rfl)) ?_
              | refine AXl.qt rfl (by decide : (89:Nat) < 183) (Still.qt (s_field_row _ _ _ fdT_45_0_e rfl rfl)) ?_
            first
              | refine AXl.qt rfl (by decide : (90:Nat) < 183) (Still.qt (s_load1 _ _ ldT_9_e rfl)) ?_
              | refine AXl.qt rfl (by decide : (90:Nat) < 183) (Still.qt (s_load1_row _ _ ldT_9_e rfl rfl (by first | rfl | exact List.getElem?_eq_getElem (by omega)) rfl)) ?_
            refine AXl.nm_e0 ?_
            refine AXl.qt rfl (by decide : (91:Nat) < 183) (q_call (c27 3 _ _ 0) (.cons (by first | exact ArgOk.d | exact ArgOk.bor rfl | exact ArgOk.agg rfl | exact ArgOk.agg (toDs_map _) | exact ArgOk.nil_bor | exact ArgOk.nil_lst | exact ArgOk.fn | exact ArgOk.ptr rfl rfl | exact ArgOk.aggn rfl (by repeat first | exact .nil | refine .cons (.refl _) ?_ | refine .cons (.nil _) ?_)) (.cons (by first | exact ArgOk.d | exact ArgOk.bor rfl | exact ArgOk.agg rfl | exact ArgOk.agg (toDs_map _) | exact ArgOk.nil_bor | exact ArgOk.nil_lst | exact ArgOk.fn | exact ArgOk.ptr rfl rfl | exact ArgOk.aggn rfl (by repeat first | exact .nil | refine .cons (.refl _) ?_ | refine .cons (.nil _) ?_)) (.cons (by first | exact ArgOk.d | exact ArgOk.bor rfl | exact ArgOk.agg rfl | exact ArgOk.agg (toDs_map _) | exact ArgOk.nil_bor | exact ArgOk.nil_lst | exact ArgOk.fn | exact ArgOk.ptr rfl rfl | exact ArgOk.aggn rfl (by repeat first | exact .nil | refine .cons (.refl _) ?_ | refine .cons (.nil _) ?_)) (.cons (by first | exact ArgOk.d | exact ArgOk.bor rfl | exact ArgOk.agg rfl | exact ArgOk.agg (toDs_map _) | exact ArgOk.nil_bor | exact ArgOk.nil_lst | exact ArgOk.fn | exact ArgOk.ptr rfl rfl | exact ArgOk.aggn rfl (by repeat first | exact .nil | refine .cons (.refl _) ?_ | refine .cons (.nil _) ?_)) .nil))))) ?_
            refine AXl.qt rfl (by decide : (92:Nat) < 183) (q_buildSlice _ _ _ apT_35_e rfl rfl (by decide)) ?_
            first
              | refine AXl.append apT_35_e rfl rfl rfl (by simp only [List.length_append, List.length_map, List.length_cons, List.length_nil]; omega) (by simp only [List.length_append, List.length_map, List.length_cons, List.length_nil]; omega) (by decide : (93:Nat) < 183) ?_
              | refine AXl.append_nil apT_35_e rfl (by decide) rfl (by simp only [List.length_append, List.length_map, List.length_cons, List.length_nil]; omega) (by simp only [List.length_append, List.length_map, List.length_cons, List.length_nil]; omega) (by decide : (93:Nat) < 183) ?_
            refine AXl.qt rfl (by decide : (5:Nat) < 183) (Still.qt (s_assign _)) ?_
            refine AXl.nm_e0 ?_
            refine AXl.nil ?_
            refine hK45 _ ?_
            clear hK45 K45
            refine Ethen.n ?_
            refine hK40 _ ?_
            clear hK40 K40
            refine AXc.seq fun K46 hK46 => ?_
            refine AXc.seq fun K47 hK47 => ?_
            refine AXc.region' fun K48 hK48 => ?_
            refine AXl.qt rfl (by decide : (11:Nat) < 183) (Still.qt (s_assign _)) ?_
            refine AXl.nm_e0 ?_
            refine AXl.nil ?_
            refine hK48 _ ?_
            clear hK48 K48
            refine Ethen.n ?_
            refine hK47 _ ?_
            clear hK47 K47
            refine AXc.block ?_
            rw [flds_next l r.fields hk] at hinv; unfold oneP repP fieldP at hinv
            simp only [hc11, hc27, hc36, hg43, hc44, Bool.true_and, Bool.and_true, Bool.not_true, Bool.not_false, Bool.false_and, Bool.and_false, Bool.and_self, if_true, if_false, ↓reduceIte, Bool.false_eq_true, List.nil_append, List.append_assoc] at hinv
            first
              | refine AXc.loop (S := Nat × Nat × List Problem) (fun ⟨j, ver3, out3⟩ => ⟨[(0, .c (.d (.lst 7 (l.map TagRule.ds)))), (3, .c (.loc 0 0)), (5, .c (.own 1 ver3)), (7, .c (.d (.int .i64 k))), (8, .c (.loc 2 0)), (9, .c (.loc 3 0)), (11, .c (.d (.int .i64 j)))], [.box 27 (r.ds.map C.d), .row 41 4 (out3.map Problem.ds) ver3, .box 45 (Fld.ds r.fields[k] |>.map C.d), .box 29 (TagRule.ds (getR l r.fields[k].tag) |>.map C.d)]⟩) (fun ⟨j, ver3, out3⟩ => j ≤ r.fields[k].subs.length ∧ out3 ++ (subP (getR l r.fields[k].tag) r.fields[k].tag k (r.fields[k].subs.take j) (r.fields[k].subs.drop j) ++ (needP r.fields[k].tag k r.fields[k].subs (getR l r.fields[k].tag).needs ++ (authP (getR l r.fields[k].tag) r.fields[k] k ++ fldsP l (r.fields.take (k + 1)) (r.fields.drop (k + 1))))) = mustP r.fields l ++ fldsP l [] r.fields) (fun ⟨j, ver3, out3⟩ => r.fields[k].subs.length - j) (0, ver, out) ⟨by omega, by simpa only [List.take_zero, List.drop_zero, List.append_assoc] using hinv⟩ (by refine ⟨?_, ?_, ?_, ?_, ?_, ?_⟩ <;> (simp [subE, lk, AV.low, C.low, LB.low, Problem.ds, TagRule.ds, Fld.ds, Sub.ds, Rec.ds] <;> fail)) ?_
              | refine AXc.loop (S := Nat × Nat × List Problem) (fun ⟨j, ver3, out3⟩ => ⟨[(0, .c (.d (.lst 7 (l.map TagRule.ds)))), (3, .c (.loc 0 0)), (5, .c (.own 1 ver3)), (7, .c (.d (.int .i64 k))), (8, .c (.loc 2 0)), (9, .c (.loc 3 0)), (11, .c (.d (.int .i64 j)))], [.box 27 (r.ds.map C.d), .row 41 4 (out3.map Problem.ds) ver3, .box 45 (Fld.ds r.fields[k] |>.map C.d), .box 29 (TagRule.ds (getR l r.fields[k].tag) |>.map C.d)]⟩) (fun ⟨j, ver3, out3⟩ => j ≤ r.fields[k].subs.length ∧ out3 ++ (subP (getR l r.fields[k].tag) r.fields[k].tag k (r.fields[k].subs.take j) (r.fields[k].subs.drop j) ++ (needP r.fields[k].tag k r.fields[k].subs (getR l r.fields[k].tag).needs ++ (authP (getR l r.fields[k].tag) r.fields[k] k ++ fldsP l (r.fields.take (k + 1)) (r.fields.drop (k + 1))))) = mustP r.fields l ++ fldsP l [] r.fields) (fun ⟨j, ver3, out3⟩ => r.fields[k].subs.length - j) (0, ver + 1, out ++ [⟨3, k, r.fields[k].tag, 0⟩]) ⟨by omega, by simpa only [List.take_zero, List.drop_zero, List.append_assoc] using hinv⟩ (by refine ⟨?_, ?_, ?_, ?_, ?_, ?_⟩ <;> (simp [subE, lk, AV.low, C.low, LB.low, Problem.ds, TagRule.ds, Fld.ds, Sub.ds, Rec.ds] <;> fail)) ?_
            rintro ⟨j, ver3, out3⟩ ⟨hj0, hinv3⟩
            have hb3 := congrArg List.length hinv3; simp only [List.length_append] at hb3
            try simp only [Problem.ds, TagRule.ds, Fld.ds, Sub.ds, Rec.ds, indexByte_any, indexByte_any', ← List.map_take, Nat.sub_zero, tagd_pos, tagd_zero, cnt_pos, cnt_zero, List.take_length, List.map_cons, List.map_nil]
            refine AXc.seq fun K49 hK49 => ?_
            refine AXc.seq fun K50 hK50 => ?_
            refine AXc.region' fun K51 hK51 => ?_
            refine AXl.qt rfl (by decide : (94:Nat) < 183) (Still.qt (s_move _)) ?_
            first
              | refine AXl.qt rfl (by decide : (95:Nat) < 183) (Still.qt (s_field_loc _ _ _ fdT_45_2_e rfl)) ?_
              | refine AXl.qt rfl (by decide : (95:Nat) < 183) (Still.qt (s_field_ptr _ _ _ fdT_45_2_e rfl)) ?_
              | refine AXl.qt rfl (by decide : (95:Nat) < 183) (Still.qt (s_field_row _ _ _ fdT_45_2_e rfl rfl)) ?_
            first
              | refine AXl.qt rfl (by decide : (96:Nat) < 183) (Still.qt (s_load1 _ _ ldT_43_e rfl)) ?_
              | refine AXl.qt rfl (by decide : (96:Nat) < 183) (Still.qt (s_load1_row _ _ ldT_43_e rfl rfl (by first | rfl | exact List.getElem?_eq_getElem (by omega)) rfl)) ?_
            first
              | refine AXl.qt rfl (by decide : (97:Nat) < 183) (Still.qt (s_len _ _ Tryd.underlying43 rfl)) ?_
              | refine AXl.qt rfl (by decide : (97:Nat) < 183) (Still.qt (s_len_nil _ _ Tryd.underlying43 rfl)) ?_
            refine AXl.qt rfl (by decide : (98:Nat) < 183) (Still.qt (s_icmp _ _ _ _ _ rfl rfl rfl)) ?_
            refine AXl.nm_e0 ?_
            refine AXl.nil ?_
            refine hK51 _ ?_
            clear hK51 K51
            refine Ethen.n ?_
            refine hK50 _ ?_
            clear hK50 K50
            refine AXc.cond rfl (fun hc52 => ?_) (fun hc52 => ?_)
            · try simp only [decide_eq_true_eq, decide_eq_false_iff_not, Bool.not_eq_true', Bool.not_eq_false', Int.not_lt, Int.not_le, ne_eq, Decidable.not_not, bne_iff_ne, beq_iff_eq, Bool.and_eq_true, Bool.or_eq_true, Bool.and_eq_false_iff, Bool.or_eq_false_iff, Bool.not_not, Ax.u8eq] at hc52
              have hj : j < r.fields[k].subs.length := by omega
              refine AXc.skip ?_
              refine Ethen.n ?_
              refine hK49 _ ?_
              clear hK49 K49
              refine AXc.seq fun K53 hK53 => ?_
              refine AXc.block ?_
              refine AXc.seq fun K54 hK54 => ?_
              refine AXc.region' fun K55 hK55 => ?_
              first
                | refine AXl.qt rfl (by decide : (101:Nat) < 183) (Still.qt (s_field_loc _ _ _ fdT_45_2_e rfl)) ?_
                | refine AXl.qt rfl (by decide : (101:Nat) < 183) (Still.qt (s_field_ptr _ _ _ fdT_45_2_e rfl)) ?_
                | refine AXl.qt rfl (by decide : (101:Nat) < 183) (Still.qt (s_field_row _ _ _ fdT_45_2_e rfl rfl)) ?_
              first
                | refine AXl.qt rfl (by decide : (102:Nat) < 183) (Still.qt (s_load1 _ _ ldT_43_e rfl)) ?_
                | refine AXl.qt rfl (by decide : (102:Nat) < 183) (Still.qt (s_load1_row _ _ ldT_43_e rfl rfl (by first | rfl | exact List.getElem?_eq_getElem (by omega)) rfl)) ?_
              refine AXl.qt rfl (by decide : (103:Nat) < 183) (Still.qt (s_move _)) ?_
              first
                | refine AXl.qt rfl (by decide : (104:Nat) < 183) (Still.qt (s_index _ _ _ slT_43_e (.inl rfl) rfl rfl (by first | omega | (simp only [List.length_map, List.length_cons, List.length_nil, List.length_append, List.length_take, List.length_drop]; omega)) (List.getElem?_eq_getElem (by first | omega | (simp only [List.length_map, List.length_cons, List.length_nil, List.length_append, List.length_take, List.length_drop]; omega))))) ?_
                | refine AXl.qt rfl (by decide : (104:Nat) < 183) (Still.qt (s_index _ _ _ slT_43_e (.inr rfl) rfl rfl (by first | omega | (simp only [List.length_map, List.length_cons, List.length_nil, List.length_append, List.length_take, List.length_drop]; omega)) (List.getElem?_eq_getElem (by first | omega | (simp only [List.length_map, List.length_cons, List.length_nil, List.length_append, List.length_take, List.length_drop]; omega))))) ?_
                | refine AXl.qt rfl (by decide : (104:Nat) < 183) (Still.qt (s_index_own _ _ _ slT_43_e rfl rfl rfl rfl (by first | omega | (simp only [List.length_map, List.length_cons, List.length_nil, List.length_append, List.length_take, List.length_drop]; omega)) (by first | omega | (simp only [List.length_map, List.length_cons, List.length_nil, List.length_append, List.length_take, List.length_drop]; omega)))) ?_
              refine AXl.nm_e0 ?_
              first
                | refine AXl.qt rfl (by decide : (105:Nat) < 183) (Still.qt (s_field_loc _ _ _ fdT_55_0_e rfl)) ?_
                | refine AXl.qt rfl (by decide : (105:Nat) < 183) (Still.qt (s_field_ptr _ _ _ fdT_55_0_e rfl)) ?_
                | refine AXl.qt rfl (by decide : (105:Nat) < 183) (Still.qt (s_field_row _ _ _ fdT_55_0_e rfl rfl)) ?_
              first
                | refine AXl.qt rfl (by decide : (106:Nat) < 183) (Still.qt (s_load1 _ _ ldT_5_e rfl)) ?_
                | refine AXl.qt rfl (by decide : (106:Nat) < 183) (Still.qt (s_load1_row _ _ ldT_5_e rfl rfl (by first | rfl | exact List.getElem?_eq_getElem (by omega)) rfl)) ?_
              refine AXl.qt rfl (by decide : (12:Nat) < 183) (Still.qt (s_assign _)) ?_
              refine AXl.nm_e0 ?_
              refine AXl.nil ?_
              refine hK55 _ ?_
              clear hK55 K55
              refine Ethen.n ?_
              refine hK54 _ ?_
              clear hK54 K54
              refine AXc.seq fun K56 hK56 => ?_
              refine AXc.region' fun K57 hK57 => ?_
              first
                | refine AXl.qt rfl (by decide : (107:Nat) < 183) (Still.qt (s_field_loc _ _ _ fdT_29_3_e rfl)) ?_
                | refine AXl.qt rfl (by decide : (107:Nat) < 183) (Still.qt (s_field_ptr _ _ _ fdT_29_3_e rfl)) ?_
                | refine AXl.qt rfl (by decide : (107:Nat) < 183) (Still.qt (s_field_row _ _ _ fdT_29_3_e rfl rfl)) ?_
              first
                | refine AXl.qt rfl (by decide : (108:Nat) < 183) (Still.qt (s_load1 _ _ ldT_9_e rfl)) ?_
                | refine AXl.qt rfl (by decide : (108:Nat) < 183) (Still.qt (s_load1_row _ _ ldT_9_e rfl rfl (by first | rfl | exact List.getElem?_eq_getElem (by omega)) rfl)) ?_
              refine AXl.qt rfl (by decide : (109:Nat) < 183) (Still.qt (s_move _)) ?_
              refine AXl.nm_e0 ?_
              refine AXl.qt rfl (by decide : (110:Nat) < 183) (q_call (c28 _ _ ?hs) (.cons (by first | exact ArgOk.d | exact ArgOk.bor rfl | exact ArgOk.agg rfl | exact ArgOk.agg (toDs_map _) | exact ArgOk.nil_bor | exact ArgOk.nil_lst | exact ArgOk.fn | exact ArgOk.ptr rfl rfl | exact ArgOk.aggn rfl (by repeat first | exact .nil | refine .cons (.refl _) ?_ | refine .cons (.nil _) ?_)) (.cons (by first | exact ArgOk.d | exact ArgOk.bor rfl | exact ArgOk.agg rfl | exact ArgOk.agg (toDs_map _) | exact ArgOk.nil_bor | exact ArgOk.nil_lst | exact ArgOk.fn | exact ArgOk.ptr rfl rfl | exact ArgOk.aggn rfl (by repeat first | exact .nil | refine .cons (.refl _) ?_ | refine .cons (.nil _) ?_)) .nil))) ?_
              case hs => first | exact Nat.le_trans hokr.codes (by decide) | exact Nat.le_trans hokr.once (by decide)
              refine AXl.qt rfl (by decide : (111:Nat) < 183) (Still.qt (s_not _ _ rfl)) ?_
              refine AXl.nm_e0 ?_
              refine AXl.nil ?_
              refine hK57 _ ?_
              clear hK57 K57
              refine Ethen.n ?_
              refine hK56 _ ?_
              clear hK56 K56
              refine AXc.cond rfl (fun hc58 => ?_) (fun hc58 => ?_)
              · try simp only [decide_eq_true_eq, decide_eq_false_iff_not, Bool.not_eq_true', Bool.not_eq_false', Int.not_lt, Int.not_le, ne_eq, Decidable.not_not, bne_iff_ne, beq_iff_eq, Bool.and_eq_true, Bool.or_eq_true, Bool.and_eq_false_iff, Bool.or_eq_false_iff, Bool.not_not, Ax.u8eq] at hc58
                refine AXc.region' fun K59 hK59 => ?_
                refine AXl.qt rfl (by decide : (112:Nat) < 183) (Still.qt (s_move _)) ?_
                refine AXl.qt rfl (by decide : (113:Nat) < 183) (Still.qt (s_move _)) ?_
                first
                  | refine AXl.qt rfl (by decide : (114:Nat) < 183) (Still.qt (s_field_loc _ _ _ fdT_45_0_e rfl)) ?_
                  | refine AXl.qt rfl (by decide : (114:Nat) < 183) (Still.qt (s_field_ptr _ _ _ fdT_45_0_e rfl)) ?_
                  | refine AXl.qt rfl (by decide : (114:Nat) < 183) (Still.qt (s_field_row _ _ _ fdT_45_0_e rfl rfl)) ?_
                first
                  | refine AXl.qt rfl (by decide : (115:Nat) < 183) (Still.qt (s_load1 _ _ ldT_9_e rfl)) ?_
                  | refine AXl.qt rfl (by decide : (115:Nat) < 183) (Still.qt (s_load1_row _ _ ldT_9_e rfl rfl (by first | rfl | exact List.getElem?_eq_getElem (by omega)) rfl)) ?_
                refine AXl.qt rfl (by decide : (116:Nat) < 183) (Still.qt (s_move _)) ?_
                refine AXl.nm_e0 ?_
                refine AXl.qt rfl (by decide : (117:Nat) < 183) (q_call (c27 _ _ _ _) (.cons (by first | exact ArgOk.d | exact ArgOk.bor rfl | exact ArgOk.agg rfl | exact ArgOk.agg (toDs_map _) | exact ArgOk.nil_bor | exact ArgOk.nil_lst | exact ArgOk.fn | exact ArgOk.ptr rfl rfl | exact ArgOk.aggn rfl (by repeat first | exact .nil | refine .cons (.refl _) ?_ | refine .cons (.nil _) ?_)) (.cons (by first | exact ArgOk.d | exact ArgOk.bor rfl | exact ArgOk.agg rfl | exact ArgOk.agg (toDs_map _) | exact ArgOk.nil_bor | exact ArgOk.nil_lst | exact ArgOk.fn | exact ArgOk.ptr rfl rfl | exact ArgOk.aggn rfl (by repeat first | exact .nil | refine .cons (.refl _) ?_ | refine .cons (.nil _) ?_)) (.cons (by first | exact ArgOk.d | exact ArgOk.bor rfl | exact ArgOk.agg rfl | exact ArgOk.agg (toDs_map _) | exact ArgOk.nil_bor | exact ArgOk.nil_lst | exact ArgOk.fn | exact ArgOk.ptr rfl rfl | exact ArgOk.aggn rfl (by repeat first | exact .nil | refine .cons (.refl _) ?_ | refine .cons (.nil _) ?_)) (.cons (by first | exact ArgOk.d | exact ArgOk.bor rfl | exact ArgOk.agg rfl | exact ArgOk.agg (toDs_map _) | exact ArgOk.nil_bor | exact ArgOk.nil_lst | exact ArgOk.fn | exact ArgOk.ptr rfl rfl | exact ArgOk.aggn rfl (by repeat first | exact .nil | refine .cons (.refl _) ?_ | refine .cons (.nil _) ?_)) .nil))))) ?_
                refine AXl.qt rfl (by decide : (118:Nat) < 183) (q_buildSlice _ _ _ apT_35_e rfl rfl (by decide)) ?_
                first
                  | refine AXl.append apT_35_e rfl rfl rfl (by simp only [List.length_append, List.length_map, List.length_cons, List.length_nil]; omega) (by simp only [List.length_append, List.length_map, List.length_cons, List.length_nil]; omega) (by decide : (119:Nat) < 183) ?_
                  | refine AXl.append_nil apT_35_e rfl (by decide) rfl (by simp only [List.length_append, List.length_map, List.length_cons, List.length_nil]; omega) (by simp only [List.length_append, List.length_map, List.length_cons, List.length_nil]; omega) (by decide : (119:Nat) < 183) ?_
                refine AXl.qt rfl (by decide : (5:Nat) < 183) (Still.qt (s_assign _)) ?_
                refine AXl.nm_e0 ?_
                refine AXl.nil ?_
                refine hK59 _ ?_
                clear hK59 K59
                refine EinBlock.n ?_
                refine Ethen.n ?_
                refine hK53 _ ?_
                clear hK53 K53
                refine AXc.region' fun K60 hK60 => ?_
                refine AXl.qt rfl (by decide : (99:Nat) < 183) (Still.qt (s_move _)) ?_
                refine AXl.qt rfl (by decide : (100:Nat) < 183) (Still.qt (s_iar _ _ _ _ _ rfl rfl rfl (IntWalk.i64_in _ ⟨(by first | omega | (simp only [List.length_map, List.length_cons, List.length_nil, List.length_append, List.length_take, List.length_drop]; omega)), (by first | omega | (simp only [List.length_map, List.length_cons, List.length_nil, List.length_append, List.length_take, List.length_drop]; omega))⟩))) ?_
                refine AXl.qt rfl (by decide : (11:Nat) < 183) (Still.qt (s_assign _)) ?_
                refine AXl.nm_e0 ?_
                refine AXl.nil ?_
                refine hK60 _ ?_
                clear hK60 K60
                refine Ethen.n ?_
                clear hK21 K21 hK28 K28 hK46 K46
                rw [sub_next (getR l r.fields[k].tag) _ _ r.fields[k].subs hj] at hinv3
                first
                  | (refine ⟨(j + 1, ver3 + 1, out3 ++ [⟨4, k, r.fields[k].tag, r.fields[k].subs[j].code⟩]), ⟨by omega, ?_⟩, by first | omega | (dsimp only; omega), (by refine ⟨?_, ?_, ?_, ?_, ?_, ?_⟩ <;> (simp [subE, lk, AV.low, C.low, LB.low, Problem.ds, TagRule.ds, Fld.ds, Sub.ds, Rec.ds] <;> fail))⟩
                     simp only [hc11, hc27, hc36, hg43, hc44, hc52, hc58, Bool.true_and, Bool.and_true, Bool.not_true, Bool.not_false, Bool.false_and, Bool.and_false, Bool.and_self, if_true, if_false, ↓reduceIte, Bool.false_eq_true, List.nil_append, List.append_assoc] at hinv3 ⊢
                     exact hinv3)
                  | (refine ⟨(j + 1, ver3 + 1, out3 ++ [⟨5, k, r.fields[k].tag, r.fields[k].subs[j].code⟩]), ⟨by omega, ?_⟩, by first | omega | (dsimp only; omega), (by refine ⟨?_, ?_, ?_, ?_, ?_, ?_⟩ <;> (simp [subE, lk, AV.low, C.low, LB.low, Problem.ds, TagRule.ds, Fld.ds, Sub.ds, Rec.ds] <;> fail))⟩
                     simp only [hc11, hc27, hc36, hg43, hc44, hc52, hc58, Bool.true_and, Bool.and_true, Bool.not_true, Bool.not_false, Bool.false_and, Bool.and_false, Bool.and_self, if_true, if_false, ↓reduceIte, Bool.false_eq_true, List.nil_append, List.append_assoc] at hinv3 ⊢
                     exact hinv3)
                  | (refine ⟨(j + 1, ver3, out3), ⟨by omega, ?_⟩, by first | omega | (dsimp only; omega), (by refine ⟨?_, ?_, ?_, ?_, ?_, ?_⟩ <;> (simp [subE, lk, AV.low, C.low, LB.low, Problem.ds, TagRule.ds, Fld.ds, Sub.ds, Rec.ds] <;> fail))⟩
                     simp only [hc11, hc27, hc36, hg43, hc44, hc52, hc58, Bool.true_and, Bool.and_true, Bool.not_true, Bool.not_false, Bool.false_and, Bool.and_false, Bool.and_self, if_true, if_false, ↓reduceIte, Bool.false_eq_true, List.nil_append, List.append_assoc] at hinv3 ⊢
                     exact hinv3)
              · try simp only [decide_eq_true_eq, decide_eq_false_iff_not, Bool.not_eq_true', Bool.not_eq_false', Int.not_lt, Int.not_le, ne_eq, Decidable.not_not, bne_iff_ne, beq_iff_eq, Bool.and_eq_true, Bool.or_eq_true, Bool.and_eq_false_iff, Bool.or_eq_false_iff, Bool.not_not, Ax.u8eq] at hc58
                refine AXc.seq fun K61 hK61 => ?_
                refine AXc.region' fun K62 hK62 => ?_
                first
                  | refine AXl.qt rfl (by decide : (120:Nat) < 183) (Still.qt (s_field_loc _ _ _ fdT_29_4_e rfl)) ?_
                  | refine AXl.qt rfl (by decide : (120:Nat) < 183) (Still.qt (s_field_ptr _ _ _ fdT_29_4_e rfl)) ?_
                  | refine AXl.qt rfl (by decide : (120:Nat) < 183) (Still.qt (s_field_row _ _ _ fdT_29_4_e rfl rfl)) ?_
                first
                  | refine AXl.qt rfl (by decide : (121:Nat) < 183) (Still.qt (s_load1 _ _ ldT_9_e rfl)) ?_
                  | refine AXl.qt rfl (by decide : (121:Nat) < 183) (Still.qt (s_load1_row _ _ ldT_9_e rfl rfl (by first | rfl | exact List.getElem?_eq_getElem (by omega)) rfl)) ?_
                refine AXl.qt rfl (by decide : (122:Nat) < 183) (Still.qt (s_move _)) ?_
                refine AXl.nm_e0 ?_
                refine AXl.qt rfl (by decide : (123:Nat) < 183) (q_call (c28 _ _ ?hs) (.cons (by first | exact ArgOk.d | exact ArgOk.bor rfl | exact ArgOk.agg rfl | exact ArgOk.agg (toDs_map _) | exact ArgOk.nil_bor | exact ArgOk.nil_lst | exact ArgOk.fn | exact ArgOk.ptr rfl rfl | exact ArgOk.aggn rfl (by repeat first | exact .nil | refine .cons (.refl _) ?_ | refine .cons (.nil _) ?_)) (.cons (by first | exact ArgOk.d | exact ArgOk.bor rfl | exact ArgOk.agg rfl | exact ArgOk.agg (toDs_map _) | exact ArgOk.nil_bor | exact ArgOk.nil_lst | exact ArgOk.fn | exact ArgOk.ptr rfl rfl | exact ArgOk.aggn rfl (by repeat first | exact .nil | refine .cons (.refl _) ?_ | refine .cons (.nil _) ?_)) .nil))) ?_
                case hs => first | exact Nat.le_trans hokr.codes (by decide) | exact Nat.le_trans hokr.once (by decide)
                refine AXl.qt rfl (by decide : (124:Nat) < 183) (Still.qt (s_move _)) ?_
                refine AXl.nm_e0 ?_
                refine AXl.split 124 _ rfl (fun hg63 => ?_) (fun hg63 => ?_)
                · try simp only [decide_eq_true_eq, decide_eq_false_iff_not, Bool.not_eq_true', Bool.not_eq_false', Int.not_lt, Int.not_le, ne_eq, Decidable.not_not, bne_iff_ne, beq_iff_eq, Bool.and_eq_true, Bool.or_eq_true, Bool.and_eq_false_iff, Bool.or_eq_false_iff, Bool.not_not, Ax.u8eq] at hg63
                  simp only [del, ↓reduceIte, Nat.reduceEqDiff]
                  first
                    | refine AXl.qt_guard (by decide : (125:Nat) < 183) rfl (by kernel_rfl) (Still.qt (s_loadN _ _ ldT_45_e rfl (by simp [Problem.ds, TagRule.ds, Fld.ds, Sub.ds, Rec.ds]))) ?_
                    | refine AXl.qt_guard (by decide : (125:Nat) < 183) rfl (by kernel_rfl) (Still.qt (s_loadN_row _ _ ldT_45_e rfl rfl (by first | rfl | exact List.getElem?_eq_getElem (by omega)) (by simp [Problem.ds, TagRule.ds, Fld.ds, Sub.ds, Rec.ds]))) ?_
                  refine AXl.qt_guard (by decide : (126:Nat) < 183) rfl (by kernel_rfl) (Still.qt (s_move _)) ?_
                  refine AXl.qt_guard (by decide : (127:Nat) < 183) rfl (by kernel_rfl) (Still.qt (s_move _)) ?_
                  refine AXl.nm_e0 ?_
                  refine AXl.qt_guard (by decide : (128:Nat) < 183) rfl (by kernel_rfl) (q_call (c29 r.fields[k] _ _ ?hs ?ht) (.cons (by first | exact ArgOk.d | exact ArgOk.bor rfl | exact ArgOk.agg rfl | exact ArgOk.agg (toDs_map _) | exact ArgOk.nil_bor | exact ArgOk.nil_lst | exact ArgOk.fn | exact ArgOk.ptr rfl rfl | exact ArgOk.aggn rfl (by repeat first | exact .nil | refine .cons (.refl _) ?_ | refine .cons (.nil _) ?_)) (.cons (by first | exact ArgOk.d | exact ArgOk.bor rfl | exact ArgOk.agg rfl | exact ArgOk.agg (toDs_map _) | exact ArgOk.nil_bor | exact ArgOk.nil_lst | exact ArgOk.fn | exact ArgOk.ptr rfl rfl | exact ArgOk.aggn rfl (by repeat first | exact .nil | refine .cons (.refl _) ?_ | refine .cons (.nil _) ?_)) (.cons (by first | exact ArgOk.d | exact ArgOk.bor rfl | exact ArgOk.agg rfl | exact ArgOk.agg (toDs_map _) | exact ArgOk.nil_bor | exact ArgOk.nil_lst | exact ArgOk.fn | exact ArgOk.ptr rfl rfl | exact ArgOk.aggn rfl (by repeat first | exact .nil | refine .cons (.refl _) ?_ | refine .cons (.nil _) ?_)) .nil)))) ?_
                  case hs => omega
                  case ht => omega
                  refine AXl.qt_guard (by decide : (129:Nat) < 183) rfl (by kernel_rfl) (Still.qt (s_icmp _ _ _ _ _ rfl rfl rfl)) ?_
                  refine AXl.qt rfl (by decide : (130:Nat) < 183) (Still.qt (s_pick_t _ _ _ rfl)) ?_
                  refine AXl.nm_e0 ?_
                  refine AXl.nil ?_
                  refine hK62 _ ?_
                  clear hK62 K62
                  refine Ethen.n ?_
                  refine hK61 _ ?_
                  clear hK61 K61
                  refine AXc.cond rfl (fun hc64 => ?_) (fun hc64 => ?_)
                  · try simp only [decide_eq_true_eq, decide_eq_false_iff_not, Bool.not_eq_true', Bool.not_eq_false', Int.not_lt, Int.not_le, ne_eq, Decidable.not_not, bne_iff_ne, beq_iff_eq, Bool.and_eq_true, Bool.or_eq_true, Bool.and_eq_false_iff, Bool.or_eq_false_iff, Bool.not_not, Ax.u8eq] at hc64
                    refine AXc.region' fun K65 hK65 => ?_
                    refine AXl.qt rfl (by decide : (131:Nat) < 183) (Still.qt (s_move _)) ?_
                    refine AXl.qt rfl (by decide : (132:Nat) < 183) (Still.qt (s_move _)) ?_
                    first
                      | refine AXl.qt rfl (by decide : (133:Nat) < 183) (Still.qt (s_field_loc _ _ _ fdT_45_0_e rfl)) ?_
                      | refine AXl.qt rfl (by decide : (133:Nat) < 183) (Still.qt (s_field_ptr _ _ _ fdT_45_0_e rfl)) ?_
                      | refine AXl.qt rfl (by decide : (133:Nat) < 183) (Still.qt (s_field_row _ _ _ fdT_45_0_e rfl rfl)) ?_
                    first
                      | refine AXl.qt rfl (by decide : (134:Nat) < 183) (Still.qt (s_load1 _ _ ldT_9_e rfl)) ?_
                      | refine AXl.qt rfl (by decide : (134:Nat) < 183) (Still.qt (s_load1_row _ _ ldT_9_e rfl rfl (by first | rfl | exact List.getElem?_eq_getElem (by omega)) rfl)) ?_
                    refine AXl.qt rfl (by decide : (135:Nat) < 183) (Still.qt (s_move _)) ?_
                    refine AXl.nm_e0 ?_
                    refine AXl.qt rfl (by decide : (136:Nat) < 183) (q_call (c27 _ _ _ _) (.cons (by first | exact ArgOk.d | exact ArgOk.bor rfl | exact ArgOk.agg rfl | exact ArgOk.agg (toDs_map _) | exact ArgOk.nil_bor | exact ArgOk.nil_lst | exact ArgOk.fn | exact ArgOk.ptr rfl rfl | exact ArgOk.aggn rfl (by repeat first | exact .nil | refine .cons (.refl _) ?_ | refine .cons (.nil _) ?_)) (.cons (by first | exact ArgOk.d | exact ArgOk.bor rfl | exact ArgOk.agg rfl | exact ArgOk.agg (toDs_map _) | exact ArgOk.nil_bor | exact ArgOk.nil_lst | exact ArgOk.fn | exact ArgOk.ptr rfl rfl | exact ArgOk.aggn rfl (by repeat first | exact .nil | refine .cons (.refl _) ?_ | refine .cons (.nil _) ?_)) (.cons (by first | exact ArgOk.d | exact ArgOk.bor rfl | exact ArgOk.agg rfl | exact ArgOk.agg (toDs_map _) | exact ArgOk.nil_bor | exact ArgOk.nil_lst | exact ArgOk.fn | exact ArgOk.ptr rfl rfl | exact ArgOk.aggn rfl (by repeat first | exact .nil | refine .cons (.refl _) ?_ | refine .cons (.nil _) ?_)) (.cons (by first | exact ArgOk.d | exact ArgOk.bor rfl | exact ArgOk.agg rfl | exact ArgOk.agg (toDs_map _) | exact ArgOk.nil_bor | exact ArgOk.nil_lst | exact ArgOk.fn | exact ArgOk.ptr rfl rfl | exact ArgOk.aggn rfl (by repeat first | exact .nil | refine .cons (.refl _) ?_ | refine .cons (.nil _) ?_)) .nil))))) ?_
                    refine AXl.qt rfl (by decide : (137:Nat) < 183) (q_buildSlice _ _ _ apT_35_e rfl rfl (by decide)) ?_
                    first
                      | refine AXl.append apT_35_e rfl rfl rfl (by simp only [List.length_append, List.length_map, List.length_cons, List.length_nil]; omega) (by simp only [List.length_append, List.length_map, List.length_cons, List.length_nil]; omega) (by decide : (138:Nat) < 183) ?_
                      | refine AXl.append_nil apT_35_e rfl (by decide) rfl (by simp only [List.length_append, List.length_map, List.length_cons, List.length_nil]; omega) (by simp only [List.length_append, List.length_map, List.length_cons, List.length_nil]; omega) (by decide : (138:Nat) < 183) ?_
                    refine AXl.qt rfl (by decide : (5:Nat) < 183) (Still.qt (s_assign _)) ?_
                    refine AXl.nm_e0 ?_
                    refine AXl.nil ?_
                    refine hK65 _ ?_
                    clear hK65 K65
                    refine EinBlock.n ?_
                    refine Ethen.n ?_
                    refine hK53 _ ?_
                    clear hK53 K53
                    refine AXc.region' fun K66 hK66 => ?_
                    refine AXl.qt rfl (by decide : (99:Nat) < 183) (Still.qt (s_move _)) ?_
                    refine AXl.qt rfl (by decide : (100:Nat) < 183) (Still.qt (s_iar _ _ _ _ _ rfl rfl rfl (IntWalk.i64_in _ ⟨(by first | omega | (simp only [List.length_map, List.length_cons, List.length_nil, List.length_append, List.length_take, List.length_drop]; omega)), (by first | omega | (simp only [List.length_map, List.length_cons, List.length_nil, List.length_append, List.length_take, List.length_drop]; omega))⟩))) ?_
                    refine AXl.qt rfl (by decide : (11:Nat) < 183) (Still.qt (s_assign _)) ?_
                    refine AXl.nm_e0 ?_
                    refine AXl.nil ?_
                    refine hK66 _ ?_
                    clear hK66 K66
                    refine Ethen.n ?_
                    clear hK21 K21 hK28 K28 hK46 K46
                    rw [sub_next (getR l r.fields[k].tag) _ _ r.fields[k].subs hj] at hinv3
                    first
                      | (refine ⟨(j + 1, ver3 + 1, out3 ++ [⟨4, k, r.fields[k].tag, r.fields[k].subs[j].code⟩]), ⟨by omega, ?_⟩, by first | omega | (dsimp only; omega), (by refine ⟨?_, ?_, ?_, ?_, ?_, ?_⟩ <;> (simp [subE, lk, AV.low, C.low, LB.low, Problem.ds, TagRule.ds, Fld.ds, Sub.ds, Rec.ds] <;> fail))⟩
                         simp only [hc11, hc27, hc36, hg43, hc44, hc52, hc58, hg63, hc64, Bool.true_and, Bool.and_true, Bool.not_true, Bool.not_false, Bool.false_and, Bool.and_false, Bool.and_self, if_true, if_false, ↓reduceIte, Bool.false_eq_true, List.nil_append, List.append_assoc] at hinv3 ⊢
                         exact hinv3)
                      | (refine ⟨(j + 1, ver3 + 1, out3 ++ [⟨5, k, r.fields[k].tag, r.fields[k].subs[j].code⟩]), ⟨by omega, ?_⟩, by first | omega | (dsimp only; omega), (by refine ⟨?_, ?_, ?_, ?_, ?_, ?_⟩ <;> (simp [subE, lk, AV.low, C.low, LB.low, Problem.ds, TagRule.ds, Fld.ds, Sub.ds, Rec.ds] <;> fail))⟩
                         simp only [hc11, hc27, hc36, hg43, hc44, hc52, hc58, hg63, hc64, Bool.true_and, Bool.and_true, Bool.not_true, Bool.not_false, Bool.false_and, Bool.and_false, Bool.and_self, if_true, if_false, ↓reduceIte, Bool.false_eq_true, List.nil_append, List.append_assoc] at hinv3 ⊢
                         exact hinv3)
                      | (refine ⟨(j + 1, ver3, out3), ⟨by omega, ?_⟩, by first | omega | (dsimp only; omega), (by refine ⟨?_, ?_, ?_, ?_, ?_, ?_⟩ <;> (simp [subE, lk, AV.low, C.low, LB.low, Problem.ds, TagRule.ds, Fld.ds, Sub.ds, Rec.ds] <;> fail))⟩
                         simp only [hc11, hc27, hc36, hg43, hc44, hc52, hc58, hg63, hc64, Bool.true_and, Bool.and_true, Bool.not_true, Bool.not_false, Bool.false_and, Bool.and_false, Bool.and_self, if_true, if_false, ↓reduceIte, Bool.false_eq_true, List.nil_append, List.append_assoc] at hinv3 ⊢
                         exact hinv3)
                  · try simp only [decide_eq_true_eq, decide_eq_false_iff_not, Bool.not_eq_true', Bool.not_eq_false', Int.not_lt, Int.not_le, ne_eq, Decidable.not_not, bne_iff_ne, beq_iff_eq, Bool.and_eq_true, Bool.or_eq_true, Bool.and_eq_false_iff, Bool.or_eq_false_iff, Bool.not_not, Ax.u8eq] at hc64
                    refine AXc.skip ?_
                    refine EinBlock.n ?_
                    refine Ethen.n ?_
                    refine hK53 _ ?_
                    clear hK53 K53
                    refine AXc.region' fun K67 hK67 => ?_
                    refine AXl.qt rfl (by decide : (99:Nat) < 183) (Still.qt (s_move _)) ?_
                    refine AXl.qt rfl (by decide : (100:Nat) < 183) (Still.qt (s_iar _ _ _ _ _ rfl rfl rfl (IntWalk.i64_in _ ⟨(by first | omega | (simp only [List.length_map, List.length_cons, List.length_nil, List.length_append, List.length_take, List.length_drop]; omega)), (by first | omega | (simp only [List.length_map, List.length_cons, List.length_nil, List.length_append, List.length_take, List.length_drop]; omega))⟩))) ?_
                    refine AXl.qt rfl (by decide : (11:Nat) < 183) (Still.qt (s_assign _)) ?_
                    refine AXl.nm_e0 ?_
                    refine AXl.nil ?_
                    refine hK67 _ ?_
                    clear hK67 K67
                    refine Ethen.n ?_
                    clear hK21 K21 hK28 K28 hK46 K46
                    rw [sub_next (getR l r.fields[k].tag) _ _ r.fields[k].subs hj] at hinv3
                    first
                      | (refine ⟨(j + 1, ver3 + 1, out3 ++ [⟨4, k, r.fields[k].tag, r.fields[k].subs[j].code⟩]), ⟨by omega, ?_⟩, by first | omega | (dsimp only; omega), (by refine ⟨?_, ?_, ?_, ?_, ?_, ?_⟩ <;> (simp [subE, lk, AV.low, C.low, LB.low, Problem.ds, TagRule.ds, Fld.ds, Sub.ds, Rec.ds] <;> fail))⟩
                         simp only [hc11, hc27, hc36, hg43, hc44, hc52, hc58, hg63, hc64, Bool.true_and, Bool.and_true, Bool.not_true, Bool.not_false, Bool.false_and, Bool.and_false, Bool.and_self, if_true, if_false, ↓reduceIte, Bool.false_eq_true, List.nil_append, List.append_assoc] at hinv3 ⊢
                         exact hinv3)
                      | (refine ⟨(j + 1, ver3 + 1, out3 ++ [⟨5, k, r.fields[k].tag, r.fields[k].subs[j].code⟩]), ⟨by omega, ?_⟩, by first | omega | (dsimp only; omega), (by refine ⟨?_, ?_, ?_, ?_, ?_, ?_⟩ <;> (simp [subE, lk, AV.low, C.low, LB.low, Problem.ds, TagRule.ds, Fld.ds, Sub.ds, Rec.ds] <;> fail))⟩
                         simp only [hc11, hc27, hc36, hg43, hc44, hc52, hc58, hg63, hc64, Bool.true_and, Bool.and_true, Bool.not_true, Bool.not_false, Bool.false_and, Bool.and_false, Bool.and_self, if_true, if_false, ↓reduceIte, Bool.false_eq_true, List.nil_append, List.append_assoc] at hinv3 ⊢
                         exact hinv3)
                      | (refine ⟨(j + 1, ver3, out3), ⟨by omega, ?_⟩, by first | omega | (dsimp only; omega), (by refine ⟨?_, ?_, ?_, ?_, ?_, ?_⟩ <;> (simp [subE, lk, AV.low, C.low, LB.low, Problem.ds, TagRule.ds, Fld.ds, Sub.ds, Rec.ds] <;> fail))⟩
                         simp only [hc11, hc27, hc36, hg43, hc44, hc52, hc58, hg63, hc64, Bool.true_and, Bool.and_true, Bool.not_true, Bool.not_false, Bool.false_and, Bool.and_false, Bool.and_self, if_true, if_false, ↓reduceIte, Bool.false_eq_true, List.nil_append, List.append_assoc] at hinv3 ⊢
                         exact hinv3)
                · try simp only [decide_eq_true_eq, decide_eq_false_iff_not, Bool.not_eq_true', Bool.not_eq_false', Int.not_lt, Int.not_le, ne_eq, Decidable.not_not, bne_iff_ne, beq_iff_eq, Bool.and_eq_true, Bool.or_eq_true, Bool.and_eq_false_iff, Bool.or_eq_false_iff, Bool.not_not, Ax.u8eq] at hg63
                  simp only [del, ↓reduceIte, Nat.reduceEqDiff]
                  refine AXl.skip_guard (by decide : (125:Nat) < 183) rfl (by kernel_rfl) ?_
                  refine AXl.skip_guard (by decide : (126:Nat) < 183) rfl (by kernel_rfl) ?_
                  refine AXl.skip_guard (by decide : (127:Nat) < 183) rfl (by kernel_rfl) ?_
                  refine AXl.skip_guard (by decide : (128:Nat) < 183) rfl (by kernel_rfl) ?_
                  refine AXl.skip_guard (by decide : (129:Nat) < 183) rfl (by kernel_rfl) ?_
                  refine AXl.qt rfl (by decide : (130:Nat) < 183) (Still.qt (s_pick_f _ _ _ rfl)) ?_
                  refine AXl.nm_e0 ?_
                  refine AXl.nil ?_
                  refine hK62 _ ?_
                  clear hK62 K62
                  refine Ethen.n ?_
                  refine hK61 _ ?_
                  clear hK61 K61
                  refine AXc.cond_f rfl ?_
                  refine AXc.skip ?_
                  refine EinBlock.n ?_
                  refine Ethen.n ?_
                  refine hK53 _ ?_
                  clear hK53 K53
                  refine AXc.region' fun K68 hK68 => ?_
                  refine AXl.qt rfl (by decide : (99:Nat) < 183) (Still.qt (s_move _)) ?_
                  refine AXl.qt rfl (by decide : (100:Nat) < 183) (Still.qt (s_iar _ _ _ _ _ rfl rfl rfl (IntWalk.i64_in _ ⟨(by first | omega | (simp only [List.length_map, List.length_cons, List.length_nil, List.length_append, List.length_take, List.length_drop]; omega)), (by first | omega | (simp only [List.length_map, List.length_cons, List.length_nil, List.length_append, List.length_take, List.length_drop]; omega))⟩))) ?_
                  refine AXl.qt rfl (by decide : (11:Nat) < 183) (Still.qt (s_assign _)) ?_
                  refine AXl.nm_e0 ?_
                  refine AXl.nil ?_
                  refine hK68 _ ?_
                  clear hK68 K68
                  refine Ethen.n ?_
                  clear hK21 K21 hK28 K28 hK46 K46
                  rw [sub_next (getR l r.fields[k].tag) _ _ r.fields[k].subs hj] at hinv3
                  first
                    | (refine ⟨(j + 1, ver3 + 1, out3 ++ [⟨4, k, r.fields[k].tag, r.fields[k].subs[j].code⟩]), ⟨by omega, ?_⟩, by first | omega | (dsimp only; omega), (by refine ⟨?_, ?_, ?_, ?_, ?_, ?_⟩ <;> (simp [subE, lk, AV.low, C.low, LB.low, Problem.ds, TagRule.ds, Fld.ds, Sub.ds, Rec.ds] <;> fail))⟩
                       simp only [hc11, hc27, hc36, hg43, hc44, hc52, hc58, hg63, Bool.true_and, Bool.and_true, Bool.not_true, Bool.not_false, Bool.false_and, Bool.and_false, Bool.and_self, if_true, if_false, ↓reduceIte, Bool.false_eq_true, List.nil_append, List.append_assoc] at hinv3 ⊢
                       exact hinv3)
                    | (refine ⟨(j + 1, ver3 + 1, out3 ++ [⟨5, k, r.fields[k].tag, r.fields[k].subs[j].code⟩]), ⟨by omega, ?_⟩, by first | omega | (dsimp only; omega), (by refine ⟨?_, ?_, ?_, ?_, ?_, ?_⟩ <;> (simp [subE, lk, AV.low, C.low, LB.low, Problem.ds, TagRule.ds, Fld.ds, Sub.ds, Rec.ds] <;> fail))⟩
                       simp only [hc11, hc27, hc36, hg43, hc44, hc52, hc58, hg63, Bool.true_and, Bool.and_true, Bool.not_true, Bool.not_false, Bool.false_and, Bool.and_false, Bool.and_self, if_true, if_false, ↓reduceIte, Bool.false_eq_true, List.nil_append, List.append_assoc] at hinv3 ⊢
                       exact hinv3)
                    | (refine ⟨(j + 1, ver3, out3), ⟨by omega, ?_⟩, by first | omega | (dsimp only; omega), (by refine ⟨?_, ?_, ?_, ?_, ?_, ?_⟩ <;> (simp [subE, lk, AV.low, C.low, LB.low, Problem.ds, TagRule.ds, Fld.ds, Sub.ds, Rec.ds] <;> fail))⟩
                       simp only [hc11, hc27, hc36, hg43, hc44, hc52, hc58, hg63, Bool.true_and, Bool.and_true, Bool.not_true, Bool.not_false, Bool.false_and, Bool.and_false, Bool.and_self, if_true, if_false, ↓reduceIte, Bool.false_eq_true, List.nil_append, List.append_assoc] at hinv3 ⊢
                       exact hinv3)
            · try simp only [decide_eq_true_eq, decide_eq_false_iff_not, Bool.not_eq_true', Bool.not_eq_false', Int.not_lt, Int.not_le, ne_eq, Decidable.not_not, bne_iff_ne, beq_iff_eq, Bool.and_eq_true, Bool.or_eq_true, Bool.and_eq_false_iff, Bool.or_eq_false_iff, Bool.not_not, Ax.u8eq] at hc52
              refine AXc.exit ?_
              refine Ethen.e ?_
              clear hK49 K49
              refine Ethen.e ?_
              refine EinBlock.hit ?_
              refine Ethen.n ?_
              refine hK46 _ ?_
              clear hK46 K46
              refine AXc.seq fun K69 hK69 => ?_
              refine AXc.seq fun K70 hK70 => ?_
              refine AXc.region' fun K71 hK71 => ?_
              refine AXl.qt rfl (by decide : (13:Nat) < 183) (Still.qt (s_assign _)) ?_
              refine AXl.nm_e0 ?_
              refine AXl.nil ?_
              refine hK71 _ ?_
              clear hK71 K71
              refine Ethen.n ?_
              refine hK70 _ ?_
              clear hK70 K70
              refine AXc.block ?_
              refine AXc.loop (S := Nat × Nat × List Problem) (fun ⟨j, ver4, out4⟩ => ⟨[(0, .c (.d (.lst 7 (l.map TagRule.ds)))), (3, .c (.loc 0 0)), (5, .c (.own 1 ver4)), (7, .c (.d (.int .i64 k))), (8, .c (.loc 2 0)), (9, .c (.loc 3 0)), (13, .c (.d (.int .i64 j)))], [.box 27 (r.ds.map C.d), .row 41 4 (out4.map Problem.ds) ver4, .box 45 (Fld.ds r.fields[k] |>.map C.d), .box 29 (TagRule.ds (getR l r.fields[k].tag) |>.map C.d)]⟩) (fun ⟨j, ver4, out4⟩ => j ≤ (getR l r.fields[k].tag).needs.length ∧ out4 ++ (needP r.fields[k].tag k r.fields[k].subs ((getR l r.fields[k].tag).needs.drop j) ++ (authP (getR l r.fields[k].tag) r.fields[k] k ++ fldsP l (r.fields.take (k + 1)) (r.fields.drop (k + 1)))) = mustP r.fields l ++ fldsP l [] r.fields) (fun ⟨j, ver4, out4⟩ => (getR l r.fields[k].tag).needs.length - j) (0, ver3, out3) ⟨by omega, by rw [drop_end (by omega), subP, List.nil_append] at hinv3; exact hinv3⟩ (by refine ⟨?_, ?_, ?_, ?_, ?_, ?_⟩ <;> (simp [subE, lk, AV.low, C.low, LB.low, Problem.ds, TagRule.ds, Fld.ds, Sub.ds, Rec.ds] <;> fail)) ?_
              rintro ⟨j, ver4, out4⟩ ⟨hj0, hinv4⟩
              have hb4 := congrArg List.length hinv4; simp only [List.length_append] at hb4
              try simp only [Problem.ds, TagRule.ds, Fld.ds, Sub.ds, Rec.ds, indexByte_any, indexByte_any', ← List.map_take, Nat.sub_zero, tagd_pos, tagd_zero, cnt_pos, cnt_zero, List.take_length, List.map_cons, List.map_nil]
              refine AXc.seq fun K72 hK72 => ?_
              refine AXc.seq fun K73 hK73 => ?_
              refine AXc.region' fun K74 hK74 => ?_
              refine AXl.qt rfl (by decide : (139:Nat) < 183) (Still.qt (s_move _)) ?_
              first
                | refine AXl.qt rfl (by decide : (140:Nat) < 183) (Still.qt (s_field_loc _ _ _ fdT_29_5_e rfl)) ?_
                | refine AXl.qt rfl (by decide : (140:Nat) < 183) (Still.qt (s_field_ptr _ _ _ fdT_29_5_e rfl)) ?_
                | refine AXl.qt rfl (by decide : (140:Nat) < 183) (Still.qt (s_field_row _ _ _ fdT_29_5_e rfl rfl)) ?_
              first
                | refine AXl.qt rfl (by decide : (141:Nat) < 183) (Still.qt (s_load1 _ _ ldT_9_e rfl)) ?_
                | refine AXl.qt rfl (by decide : (141:Nat) < 183) (Still.qt (s_load1_row _ _ ldT_9_e rfl rfl (by first | rfl | exact List.getElem?_eq_getElem (by omega)) rfl)) ?_
              refine AXl.qt rfl (by decide : (142:Nat) < 183) (Still.qt (s_len_str _ _ Tryd.underlying9 rfl)) ?_
              refine AXl.qt rfl (by decide : (143:Nat) < 183) (Still.qt (s_icmp _ _ _ _ _ rfl rfl rfl)) ?_
              refine AXl.nm_e0 ?_
              refine AXl.nil ?_
              refine hK74 _ ?_
              clear hK74 K74
              refine Ethen.n ?_
              refine hK73 _ ?_
              clear hK73 K73
              refine AXc.cond rfl (fun hc75 => ?_) (fun hc75 => ?_)
              · try simp only [decide_eq_true_eq, decide_eq_false_iff_not, Bool.not_eq_true', Bool.not_eq_false', Int.not_lt, Int.not_le, ne_eq, Decidable.not_not, bne_iff_ne, beq_iff_eq, Bool.and_eq_true, Bool.or_eq_true, Bool.and_eq_false_iff, Bool.or_eq_false_iff, Bool.not_not, Ax.u8eq] at hc75
                have hj4 : j < (getR l r.fields[k].tag).needs.length := by omega
                refine AXc.skip ?_
                refine Ethen.n ?_
                refine hK72 _ ?_
                clear hK72 K72
                refine AXc.seq fun K76 hK76 => ?_
                refine AXc.block ?_
                refine AXc.seq fun K77 hK77 => ?_
                refine AXc.draw' mixed_e 10 (by kernel_rfl) fun K78 hK78 => ?_
                simp only [List.take_succ_cons, List.take_zero, List.take_nil, List.drop_succ_cons, List.drop_zero, List.drop_nil]
                first
                  | refine AXd.op rfl (Still.qt (s_loadN _ _ ldT_45_e rfl (by simp [Problem.ds, TagRule.ds, Fld.ds, Sub.ds, Rec.ds]))) ?_
                  | refine AXd.op rfl (Still.qt (s_loadN_row _ _ ldT_45_e rfl rfl (by first | rfl | exact List.getElem?_eq_getElem (by omega)) (by simp [Problem.ds, TagRule.ds, Fld.ds, Sub.ds, Rec.ds]))) ?_
                first
                  | refine AXd.op rfl (Still.qt (s_field_loc _ _ _ fdT_45_2_e rfl)) ?_
                  | refine AXd.op rfl (Still.qt (s_field_ptr _ _ _ fdT_45_2_e rfl)) ?_
                  | refine AXd.op rfl (Still.qt (s_field_row _ _ _ fdT_45_2_e rfl rfl)) ?_
                first
                  | refine AXd.op rfl (Still.qt (s_load1 _ _ ldT_43_e rfl)) ?_
                  | refine AXd.op rfl (Still.qt (s_load1_row _ _ ldT_43_e rfl rfl (by first | rfl | exact List.getElem?_eq_getElem (by omega)) rfl)) ?_
                first
                  | refine AXd.op rfl (Still.qt (s_len _ _ Tryd.underlying43 rfl)) ?_
                  | refine AXd.op rfl (Still.qt (s_len_nil _ _ Tryd.underlying43 rfl)) ?_
                first
                  | refine AXd.op rfl (Still.qt (s_field_loc _ _ _ fdT_29_5_e rfl)) ?_
                  | refine AXd.op rfl (Still.qt (s_field_ptr _ _ _ fdT_29_5_e rfl)) ?_
                  | refine AXd.op rfl (Still.qt (s_field_row _ _ _ fdT_29_5_e rfl rfl)) ?_
                first
                  | refine AXd.op rfl (Still.qt (s_load1 _ _ ldT_9_e rfl)) ?_
                  | refine AXd.op rfl (Still.qt (s_load1_row _ _ ldT_9_e rfl rfl (by first | rfl | exact List.getElem?_eq_getElem (by omega)) rfl)) ?_
                refine AXd.op rfl (Still.qt (s_move _)) ?_
                refine AXd.nm_e0 ?_
                refine AXd.op rfl (Still.qt (s_index_str _ _ _ Tryd.underlying9 rfl rfl (by first | omega | (simp only [List.length_map, List.length_cons, List.length_nil, List.length_append, List.length_take, List.length_drop]; omega)) (List.getElem?_eq_getElem (by first | omega | (simp only [List.length_map, List.length_cons, List.length_nil, List.length_append, List.length_take, List.length_drop]; omega))))) ?_
                refine AXd.nm_e0 ?_
                refine AXd.op rfl (q_call (c29 r.fields[k] _ _ ?hs ?ht) (.cons (by first | exact ArgOk.d | exact ArgOk.bor rfl | exact ArgOk.agg rfl | exact ArgOk.agg (toDs_map _) | exact ArgOk.nil_bor | exact ArgOk.nil_lst | exact ArgOk.fn | exact ArgOk.ptr rfl rfl | exact ArgOk.aggn rfl (by repeat first | exact .nil | refine .cons (.refl _) ?_ | refine .cons (.nil _) ?_)) (.cons (by first | exact ArgOk.d | exact ArgOk.bor rfl | exact ArgOk.agg rfl | exact ArgOk.agg (toDs_map _) | exact ArgOk.nil_bor | exact ArgOk.nil_lst | exact ArgOk.fn | exact ArgOk.ptr rfl rfl | exact ArgOk.aggn rfl (by repeat first | exact .nil | refine .cons (.refl _) ?_ | refine .cons (.nil _) ?_)) (.cons (by first | exact ArgOk.d | exact ArgOk.bor rfl | exact ArgOk.agg rfl | exact ArgOk.agg (toDs_map _) | exact ArgOk.nil_bor | exact ArgOk.nil_lst | exact ArgOk.fn | exact ArgOk.ptr rfl rfl | exact ArgOk.aggn rfl (by repeat first | exact .nil | refine .cons (.refl _) ?_ | refine .cons (.nil _) ?_)) .nil)))) ?_
                case hs => omega
                case ht => omega
                refine AXd.op rfl (Still.qt (s_icmp _ _ _ _ _ rfl rfl rfl)) ?_
                refine AXd.nm_e0 ?_
                refine AXd.nil ?_
                refine AXl.nil ?_
                refine hK78 _ ?_
                clear hK78 K78
                refine Ethen.n ?_
                refine hK77 _ ?_
                clear hK77 K77
                refine AXc.cond rfl (fun hc79 => ?_) (fun hc79 => ?_)
                · try simp only [decide_eq_true_eq, decide_eq_false_iff_not, Bool.not_eq_true', Bool.not_eq_false', Int.not_lt, Int.not_le, ne_eq, Decidable.not_not, bne_iff_ne, beq_iff_eq, Bool.and_eq_true, Bool.or_eq_true, Bool.and_eq_false_iff, Bool.or_eq_false_iff, Bool.not_not, Ax.u8eq] at hc79
                  refine AXc.draw' mixed_e 10 (by kernel_rfl) fun K80 hK80 => ?_
                  simp only [List.take_succ_cons, List.take_zero, List.take_nil, List.drop_succ_cons, List.drop_zero, List.drop_nil]
                  refine AXd.op rfl (Still.qt (s_move _)) ?_
                  refine AXd.op rfl (Still.qt (s_move _)) ?_
                  first
                    | refine AXd.op rfl (Still.qt (s_field_loc _ _ _ fdT_45_0_e rfl)) ?_
                    | refine AXd.op rfl (Still.qt (s_field_ptr _ _ _ fdT_45_0_e rfl)) ?_
                    | refine AXd.op rfl (Still.qt (s_field_row _ _ _ fdT_45_0_e rfl rfl)) ?_
                  first
                    | refine AXd.op rfl (Still.qt (s_load1 _ _ ldT_9_e rfl)) ?_
                    | refine AXd.op rfl (Still.qt (s_load1_row _ _ ldT_9_e rfl rfl (by first | rfl | exact List.getElem?_eq_getElem (by omega)) rfl)) ?_
                  first
                    | refine AXd.op rfl (Still.qt (s_field_loc _ _ _ fdT_29_5_e rfl)) ?_
                    | refine AXd.op rfl (Still.qt (s_field_ptr _ _ _ fdT_29_5_e rfl)) ?_
                    | refine AXd.op rfl (Still.qt (s_field_row _ _ _ fdT_29_5_e rfl rfl)) ?_
                  first
                    | refine AXd.op rfl (Still.qt (s_load1 _ _ ldT_9_e rfl)) ?_
                    | refine AXd.op rfl (Still.qt (s_load1_row _ _ ldT_9_e rfl rfl (by first | rfl | exact List.getElem?_eq_getElem (by omega)) rfl)) ?_
                  refine AXd.op rfl (Still.qt (s_move _)) ?_
                  refine AXd.nm_e0 ?_
                  refine AXd.op rfl (Still.qt (s_index_str _ _ _ Tryd.underlying9 rfl rfl (by first | omega | (simp only [List.length_map, List.length_cons, List.length_nil, List.length_append, List.length_take, List.length_drop]; omega)) (List.getElem?_eq_getElem (by first | omega | (simp only [List.length_map, List.length_cons, List.length_nil, List.length_append, List.length_take, List.length_drop]; omega))))) ?_
                  refine AXd.nm_e0 ?_
                  refine AXd.op rfl (q_call (c27 _ _ _ _) (.cons (by first | exact ArgOk.d | exact ArgOk.bor rfl | exact ArgOk.agg rfl | exact ArgOk.agg (toDs_map _) | exact ArgOk.nil_bor | exact ArgOk.nil_lst | exact ArgOk.fn | exact ArgOk.ptr rfl rfl | exact ArgOk.aggn rfl (by repeat first | exact .nil | refine .cons (.refl _) ?_ | refine .cons (.nil _) ?_)) (.cons (by first | exact ArgOk.d | exact ArgOk.bor rfl | exact ArgOk.agg rfl | exact ArgOk.agg (toDs_map _) | exact ArgOk.nil_bor | exact ArgOk.nil_lst | exact ArgOk.fn | exact ArgOk.ptr rfl rfl | exact ArgOk.aggn rfl (by repeat first | exact .nil | refine .cons (.refl _) ?_ | refine .cons (.nil _) ?_)) (.cons (by first | exact ArgOk.d | exact ArgOk.bor rfl | exact ArgOk.agg rfl | exact ArgOk.agg (toDs_map _) | exact ArgOk.nil_bor | exact ArgOk.nil_lst | exact ArgOk.fn | exact ArgOk.ptr rfl rfl | exact ArgOk.aggn rfl (by repeat first | exact .nil | refine .cons (.refl _) ?_ | refine .cons (.nil _) ?_)) (.cons (by first | exact ArgOk.d | exact ArgOk.bor rfl | exact ArgOk.agg rfl | exact ArgOk.agg (toDs_map _) | exact ArgOk.nil_bor | exact ArgOk.nil_lst | exact ArgOk.fn | exact ArgOk.ptr rfl rfl | exact ArgOk.aggn rfl (by repeat first | exact .nil | refine .cons (.refl _) ?_ | refine .cons (.nil _) ?_)) .nil))))) ?_
                  refine AXd.op rfl (q_buildSlice _ _ _ apT_35_e rfl rfl (by decide)) ?_
                  refine AXd.nm_e0 ?_
                  refine AXd.nil ?_
                  first
                    | refine AXl.append apT_35_e rfl rfl rfl (by simp only [List.length_append, List.length_map, List.length_cons, List.length_nil]; omega) (by simp only [List.length_append, List.length_map, List.length_cons, List.length_nil]; omega) (by decide : (166:Nat) < 183) ?_
                    | refine AXl.append_nil apT_35_e rfl (by decide) rfl (by simp only [List.length_append, List.length_map, List.length_cons, List.length_nil]; omega) (by simp only [List.length_append, List.length_map, List.length_cons, List.length_nil]; omega) (by decide : (166:Nat) < 183) ?_
                  refine AXl.qt rfl (by decide : (5:Nat) < 183) (Still.qt (s_assign _)) ?_
                  refine AXl.nm_e0 ?_
                  refine AXl.nil ?_
                  refine hK80 _ ?_
                  clear hK80 K80
                  refine EinBlock.n ?_
                  refine Ethen.n ?_
                  refine hK76 _ ?_
                  clear hK76 K76
                  refine AXc.region' fun K81 hK81 => ?_
                  refine AXl.qt rfl (by decide : (144:Nat) < 183) (Still.qt (s_move _)) ?_
                  refine AXl.qt rfl (by decide : (145:Nat) < 183) (Still.qt (s_iar _ _ _ _ _ rfl rfl rfl (IntWalk.i64_in _ ⟨(by first | omega | (simp only [List.length_map, List.length_cons, List.length_nil, List.length_append, List.length_take, List.length_drop]; omega)), (by first | omega | (simp only [List.length_map, List.length_cons, List.length_nil, List.length_append, List.length_take, List.length_drop]; omega))⟩))) ?_
                  refine AXl.qt rfl (by decide : (13:Nat) < 183) (Still.qt (s_assign _)) ?_
                  refine AXl.nm_e0 ?_
                  refine AXl.nil ?_
                  refine hK81 _ ?_
                  clear hK81 K81
                  refine Ethen.n ?_
                  clear hK21 K21 hK28 K28 hK69 K69
                  rw [need_next _ _ r.fields[k].subs _ hj4] at hinv4
                  first
                    | (refine ⟨(j + 1, ver4 + 1, out4 ++ [⟨6, k, r.fields[k].tag, (getR l r.fields[k].tag).needs[j]⟩]), ⟨by omega, ?_⟩, by first | omega | (dsimp only; omega), (by refine ⟨?_, ?_, ?_, ?_, ?_, ?_⟩ <;> (simp [subE, lk, AV.low, C.low, LB.low, Problem.ds, TagRule.ds, Fld.ds, Sub.ds, Rec.ds] <;> fail))⟩
                       simp only [hc11, hc27, hc36, hg43, hc44, hc52, hc75, hc79, Bool.true_and, Bool.and_true, Bool.not_true, Bool.not_false, Bool.false_and, Bool.and_false, Bool.and_self, if_true, if_false, ↓reduceIte, Bool.false_eq_true, List.nil_append, List.append_assoc] at hinv4 ⊢
                       exact hinv4)
                    | (refine ⟨(j + 1, ver4, out4), ⟨by omega, ?_⟩, by first | omega | (dsimp only; omega), (by refine ⟨?_, ?_, ?_, ?_, ?_, ?_⟩ <;> (simp [subE, lk, AV.low, C.low, LB.low, Problem.ds, TagRule.ds, Fld.ds, Sub.ds, Rec.ds] <;> fail))⟩
                       simp only [hc11, hc27, hc36, hg43, hc44, hc52, hc75, hc79, Bool.true_and, Bool.and_true, Bool.not_true, Bool.not_false, Bool.false_and, Bool.and_false, Bool.and_self, if_true, if_false, ↓reduceIte, Bool.false_eq_true, List.nil_append, List.append_assoc] at hinv4 ⊢
                       exact hinv4)
                · try simp only [decide_eq_true_eq, decide_eq_false_iff_not, Bool.not_eq_true', Bool.not_eq_false', Int.not_lt, Int.not_le, ne_eq, Decidable.not_not, bne_iff_ne, beq_iff_eq, Bool.and_eq_true, Bool.or_eq_true, Bool.and_eq_false_iff, Bool.or_eq_false_iff, Bool.not_not, Ax.u8eq] at hc79
                  refine AXc.skip ?_
                  refine EinBlock.n ?_
                  refine Ethen.n ?_
                  refine hK76 _ ?_
                  clear hK76 K76
                  refine AXc.region' fun K82 hK82 => ?_
                  refine AXl.qt rfl (by decide : (144:Nat) < 183) (Still.qt (s_move _)) ?_
                  refine AXl.qt rfl (by decide : (145:Nat) < 183) (Still.qt (s_iar _ _ _ _ _ rfl rfl rfl (IntWalk.i64_in _ ⟨(by first | omega | (simp only [List.length_map, List.length_cons, List.length_nil, List.length_append, List.length_take, List.length_drop]; omega)), (by first | omega | (simp only [List.length_map, List.length_cons, List.length_nil, List.length_append, List.length_take, List.length_drop]; omega))⟩))) ?_
                  refine AXl.qt rfl (by decide : (13:Nat) < 183) (Still.qt (s_assign _)) ?_
                  refine AXl.nm_e0 ?_
                  refine AXl.nil ?_
                  refine hK82 _ ?_
                  clear hK82 K82
                  refine Ethen.n ?_
                  clear hK21 K21 hK28 K28 hK69 K69
                  rw [need_next _ _ r.fields[k].subs _ hj4] at hinv4
                  first
                    | (refine ⟨(j + 1, ver4 + 1, out4 ++ [⟨6, k, r.fields[k].tag, (getR l r.fields[k].tag).needs[j]⟩]), ⟨by omega, ?_⟩, by first | omega | (dsimp only; omega), (by refine ⟨?_, ?_, ?_, ?_, ?_, ?_⟩ <;> (simp [subE, lk, AV.low, C.low, LB.low, Problem.ds, TagRule.ds, Fld.ds, Sub.ds, Rec.ds] <;> fail))⟩
                       simp only [hc11, hc27, hc36, hg43, hc44, hc52, hc75, hc79, Bool.true_and, Bool.and_true, Bool.not_true, Bool.not_false, Bool.false_and, Bool.and_false, Bool.and_self, if_true, if_false, ↓reduceIte, Bool.false_eq_true, List.nil_append, List.append_assoc] at hinv4 ⊢
                       exact hinv4)
                    | (refine ⟨(j + 1, ver4, out4), ⟨by omega, ?_⟩, by first | omega | (dsimp only; omega), (by refine ⟨?_, ?_, ?_, ?_, ?_, ?_⟩ <;> (simp [subE, lk, AV.low, C.low, LB.low, Problem.ds, TagRule.ds, Fld.ds, Sub.ds, Rec.ds] <;> fail))⟩
                       simp only [hc11, hc27, hc36, hg43, hc44, hc52, hc75, hc79, Bool.true_and, Bool.and_true, Bool.not_true, Bool.not_false, Bool.false_and, Bool.and_false, Bool.and_self, if_true, if_false, ↓reduceIte, Bool.false_eq_true, List.nil_append, List.append_assoc] at hinv4 ⊢
                       exact hinv4)
              · try simp only [decide_eq_true_eq, decide_eq_false_iff_not, Bool.not_eq_true', Bool.not_eq_false', Int.not_lt, Int.not_le, ne_eq, Decidable.not_not, bne_iff_ne, beq_iff_eq, Bool.and_eq_true, Bool.or_eq_true, Bool.and_eq_false_iff, Bool.or_eq_false_iff, Bool.not_not, Ax.u8eq] at hc75
                refine AXc.exit ?_
                refine Ethen.e ?_
                clear hK72 K72
                refine Ethen.e ?_
                refine EinBlock.hit ?_
                refine Ethen.n ?_
                refine hK69 _ ?_
                clear hK69 K69
                refine AXc.seq fun K83 hK83 => ?_
                refine AXc.region' fun K84 hK84 => ?_
                first
                  | refine AXl.qt rfl (by decide : (167:Nat) < 183) (Still.qt (s_field_loc _ _ _ fdT_45_3_e rfl)) ?_
                  | refine AXl.qt rfl (by decide : (167:Nat) < 183) (Still.qt (s_field_ptr _ _ _ fdT_45_3_e rfl)) ?_
                  | refine AXl.qt rfl (by decide : (167:Nat) < 183) (Still.qt (s_field_row _ _ _ fdT_45_3_e rfl rfl)) ?_
                first
                  | refine AXl.qt rfl (by decide : (168:Nat) < 183) (Still.qt (s_load1 _ _ ldT_3_e rfl)) ?_
                  | refine AXl.qt rfl (by decide : (168:Nat) < 183) (Still.qt (s_load1_row _ _ ldT_3_e rfl rfl (by first | rfl | exact List.getElem?_eq_getElem (by omega)) rfl)) ?_
                refine AXl.qt rfl (by decide : (169:Nat) < 183) (Still.qt (s_icmp _ _ _ _ _ rfl rfl rfl)) ?_
                refine AXl.qt rfl (by decide : (170:Nat) < 183) (Still.qt (s_move _)) ?_
                refine AXl.nm_e0 ?_
                refine AXl.split 170 _ rfl (fun hg85 => ?_) (fun hg85 => ?_)
                · try simp only [decide_eq_true_eq, decide_eq_false_iff_not, Bool.not_eq_true', Bool.not_eq_false', Int.not_lt, Int.not_le, ne_eq, Decidable.not_not, bne_iff_ne, beq_iff_eq, Bool.and_eq_true, Bool.or_eq_true, Bool.and_eq_false_iff, Bool.or_eq_false_iff, Bool.not_not, Ax.u8eq] at hg85
                  simp only [del, ↓reduceIte, Nat.reduceEqDiff]
                  first
                    | refine AXl.qt_guard (by decide : (171:Nat) < 183) rfl (by kernel_rfl) (Still.qt (s_field_loc _ _ _ fdT_29_6_e rfl)) ?_
                    | refine AXl.qt_guard (by decide : (171:Nat) < 183) rfl (by kernel_rfl) (Still.qt (s_field_ptr _ _ _ fdT_29_6_e rfl)) ?_
                    | refine AXl.qt_guard (by decide : (171:Nat) < 183) rfl (by kernel_rfl) (Still.qt (s_field_row _ _ _ fdT_29_6_e rfl rfl)) ?_
                  first
                    | refine AXl.qt_guard (by decide : (172:Nat) < 183) rfl (by kernel_rfl) (Still.qt (s_load1 _ _ ldT_3_e rfl)) ?_
                    | refine AXl.qt_guard (by decide : (172:Nat) < 183) rfl (by kernel_rfl) (Still.qt (s_load1_row _ _ ldT_3_e rfl rfl (by first | rfl | exact List.getElem?_eq_getElem (by omega)) rfl)) ?_
                  refine AXl.qt_guard (by decide : (173:Nat) < 183) rfl (by kernel_rfl) (Still.qt (s_icmp _ _ _ _ _ rfl rfl rfl)) ?_
                  refine AXl.qt rfl (by decide : (174:Nat) < 183) (Still.qt (s_pick_t _ _ _ rfl)) ?_
                  refine AXl.nm_e0 ?_
                  refine AXl.nil ?_
                  refine hK84 _ ?_
                  clear hK84 K84
                  refine Ethen.n ?_
                  refine hK83 _ ?_
                  clear hK83 K83
                  refine AXc.cond rfl (fun hc86 => ?_) (fun hc86 => ?_)
                  · try simp only [decide_eq_true_eq, decide_eq_false_iff_not, Bool.not_eq_true', Bool.not_eq_false', Int.not_lt, Int.not_le, ne_eq, Decidable.not_not, bne_iff_ne, beq_iff_eq, Bool.and_eq_true, Bool.or_eq_true, Bool.and_eq_false_iff, Bool.or_eq_false_iff, Bool.not_not, Ax.u8eq] at hc86
                    refine AXc.region' fun K87 hK87 => ?_
                    refine AXl.qt rfl (by decide : (175:Nat) < 183) (Still.qt (s_move _)) ?_
                    refine AXl.qt rfl (by decide : (176:Nat) < 183) (Still.qt (s_move _)) ?_
                    first
                      | refine AXl.qt rfl (by decide : (177:Nat) < 183) (Still.qt (s_field_loc _ _ _ fdT_45_0_e rfl)) ?_
                      | refine AXl.qt rfl (by decide : (177:Nat) < 183) (Still.qt (s_field_ptr _ _ _ fdT_45_0_e rfl)) ?_
                      | refine AXl.qt rfl (by decide : (177:Nat) < 183) (Still.qt (s_field_row _ _ _ fdT_45_0_e rfl rfl)) ?_
                    first
                      | refine AXl.qt rfl (by decide : (178:Nat) < 183) (Still.qt (s_load1 _ _ ldT_9_e rfl)) ?_
                      | refine AXl.qt rfl (by decide : (178:Nat) < 183) (Still.qt (s_load1_row _ _ ldT_9_e rfl rfl (by first | rfl | exact List.getElem?_eq_getElem (by omega)) rfl)) ?_
                    refine AXl.nm_e0 ?_
                    refine AXl.qt rfl (by decide : (179:Nat) < 183) (q_call (c27 7 _ _ 0) (.cons (by first | exact ArgOk.d | exact ArgOk.bor rfl | exact ArgOk.agg rfl | exact ArgOk.agg (toDs_map _) | exact ArgOk.nil_bor | exact ArgOk.nil_lst | exact ArgOk.fn | exact ArgOk.ptr rfl rfl | exact ArgOk.aggn rfl (by repeat first | exact .nil | refine .cons (.refl _) ?_ | refine .cons (.nil _) ?_)) (.cons (by first | exact ArgOk.d | exact ArgOk.bor rfl | exact ArgOk.agg rfl | exact ArgOk.agg (toDs_map _) | exact ArgOk.nil_bor | exact ArgOk.nil_lst | exact ArgOk.fn | exact ArgOk.ptr rfl rfl | exact ArgOk.aggn rfl (by repeat first | exact .nil | refine .cons (.refl _) ?_ | refine .cons (.nil _) ?_)) (.cons (by first | exact ArgOk.d | exact ArgOk.bor rfl | exact ArgOk.agg rfl | exact ArgOk.agg (toDs_map _) | exact ArgOk.nil_bor | exact ArgOk.nil_lst | exact ArgOk.fn | exact ArgOk.ptr rfl rfl | exact ArgOk.aggn rfl (by repeat first | exact .nil | refine .cons (.refl _) ?_ | refine .cons (.nil _) ?_)) (.cons (by first | exact ArgOk.d | exact ArgOk.bor rfl | exact ArgOk.agg rfl | exact ArgOk.agg (toDs_map _) | exact ArgOk.nil_bor | exact ArgOk.nil_lst | exact ArgOk.fn | exact ArgOk.ptr rfl rfl | exact ArgOk.aggn rfl (by repeat first | exact .nil | refine .cons (.refl _) ?_ | refine .cons (.nil _) ?_)) .nil))))) ?_
                    refine AXl.qt rfl (by decide : (180:Nat) < 183) (q_buildSlice _ _ _ apT_35_e rfl rfl (by decide)) ?_
                    first
                      | refine AXl.append apT_35_e rfl rfl rfl (by simp only [List.length_append, List.length_map, List.length_cons, List.length_nil]; omega) (by simp only [List.length_append, List.length_map, List.length_cons, List.length_nil]; omega) (by decide : (181:Nat) < 183) ?_
                      | refine AXl.append_nil apT_35_e rfl (by decide) rfl (by simp only [List.length_append, List.length_map, List.length_cons, List.length_nil]; omega) (by simp only [List.length_append, List.length_map, List.length_cons, List.length_nil]; omega) (by decide : (181:Nat) < 183) ?_
                    refine AXl.qt rfl (by decide : (5:Nat) < 183) (Still.qt (s_assign _)) ?_
                    refine AXl.nm_e0 ?_
                    refine AXl.nil ?_
                    refine hK87 _ ?_
                    clear hK87 K87
                    refine EinBlock.n ?_
                    refine Ethen.n ?_
                    refine hK28 _ ?_
                    clear hK28 K28
                    refine AXc.region' fun K88 hK88 => ?_
                    refine AXl.qt rfl (by decide : (53:Nat) < 183) (Still.qt (s_move _)) ?_
                    refine AXl.qt rfl (by decide : (54:Nat) < 183) (Still.qt (s_iar _ _ _ _ _ rfl rfl rfl (IntWalk.i64_in _ ⟨(by first | omega | (simp only [List.length_map, List.length_cons, List.length_nil, List.length_append, List.length_take, List.length_drop]; omega)), (by first | omega | (simp only [List.length_map, List.length_cons, List.length_nil, List.length_append, List.length_take, List.length_drop]; omega))⟩))) ?_
                    refine AXl.qt rfl (by decide : (7:Nat) < 183) (Still.qt (s_assign _)) ?_
                    refine AXl.nm_e0 ?_
                    refine AXl.nil ?_
                    refine hK88 _ ?_
                    clear hK88 K88
                    refine Ethen.n ?_
                    clear hK21 K21
                    first
                      | (refine ⟨(k + 1, ver + 1, out ++ [⟨2, k, r.fields[k].tag, 0⟩]), ?_⟩
                         refine ⟨⟨?_, ?_⟩, ?_, ?_⟩
                         · omega
                         · rw [flds_next l r.fields hk] at hinv; unfold oneP at hinv
                           simp only [hc11, hc27, hc36, hg43, hc44, hc52, hc75, hg85, hc86, Bool.true_and, Bool.and_true, Bool.not_true, Bool.not_false, Bool.false_and, Bool.and_false, Bool.and_self, if_true, if_false, ↓reduceIte, Bool.false_eq_true, List.nil_append, List.append_assoc] at hinv ⊢
                           exact hinv
                         · first | omega | (dsimp only; omega)
                         · refine ⟨?_, ?_, ?_, ?_, ?_, ?_⟩ <;> (simp [subE, lk, AV.low, C.low, LB.low, Problem.ds, TagRule.ds, Fld.ds, Sub.ds, Rec.ds] <;> fail))
                      | (refine ⟨(k + 1, ver4 + 1, out4 ++ [⟨7, k, r.fields[k].tag, 0⟩]), ?_⟩
                         refine ⟨⟨?_, ?_⟩, ?_, ?_⟩
                         · omega
                         · rw [drop_end (by omega), needP, List.nil_append, authP] at hinv4
                           have hcd : (r.fields[k].auth ≠ 0 ∧ (getR l r.fields[k].tag).auth = 0) = True := by simp only [hc11, hc27, hc36, hg43, hc44, hc52, hc75, hg85, hc86, ne_eq, not_false_eq_true, and_self, and_true, true_and]
                           simp only [hcd, if_true] at hinv4
                           rw [List.append_assoc]; exact hinv4
                         · first | omega | (dsimp only; omega)
                         · refine ⟨?_, ?_, ?_, ?_, ?_, ?_⟩ <;> (simp [subE, lk, AV.low, C.low, LB.low, Problem.ds, TagRule.ds, Fld.ds, Sub.ds, Rec.ds] <;> fail))
                      | (refine ⟨(k + 1, ver4, out4), ?_⟩
                         refine ⟨⟨?_, ?_⟩, ?_, ?_⟩
                         · omega
                         · rw [drop_end (by omega), needP, List.nil_append, authP] at hinv4
                           have hcd : (r.fields[k].auth ≠ 0 ∧ (getR l r.fields[k].tag).auth = 0) = False := by simp only [hc11, hc27, hc36, hg43, hc44, hc52, hc75, hg85, hc86, ne_eq, not_false_eq_true, not_true_eq_false, and_false, false_and, and_self]
                           simp only [hcd, if_false, List.nil_append] at hinv4
                           exact hinv4
                         · first | omega | (dsimp only; omega)
                         · refine ⟨?_, ?_, ?_, ?_, ?_, ?_⟩ <;> (simp [subE, lk, AV.low, C.low, LB.low, Problem.ds, TagRule.ds, Fld.ds, Sub.ds, Rec.ds] <;> fail))
                  · try simp only [decide_eq_true_eq, decide_eq_false_iff_not, Bool.not_eq_true', Bool.not_eq_false', Int.not_lt, Int.not_le, ne_eq, Decidable.not_not, bne_iff_ne, beq_iff_eq, Bool.and_eq_true, Bool.or_eq_true, Bool.and_eq_false_iff, Bool.or_eq_false_iff, Bool.not_not, Ax.u8eq] at hc86
                    refine AXc.skip ?_
                    refine EinBlock.n ?_
                    refine Ethen.n ?_
                    refine hK28 _ ?_
                    clear hK28 K28
                    refine AXc.region' fun K89 hK89 => ?_
                    refine AXl.qt rfl (by decide : (53:Nat) < 183) (Still.qt (s_move _)) ?_
                    refine AXl.qt rfl (by decide : (54:Nat) < 183) (Still.qt (s_iar _ _ _ _ _ rfl rfl rfl (IntWalk.i64_in _ ⟨(by first | omega | (simp only [List.length_map, List.length_cons, List.length_nil, List.length_append, List.length_take, List.length_drop]; omega)), (by first | omega | (simp only [List.length_map, List.length_cons, List.length_nil, List.length_append, List.length_take, List.length_drop]; omega))⟩))) ?_
                    refine AXl.qt rfl (by decide : (7:Nat) < 183) (Still.qt (s_assign _)) ?_
                    refine AXl.nm_e0 ?_
                    refine AXl.nil ?_
                    refine hK89 _ ?_
                    clear hK89 K89
                    refine Ethen.n ?_
                    clear hK21 K21
                    first
                      | (refine ⟨(k + 1, ver + 1, out ++ [⟨2, k, r.fields[k].tag, 0⟩]), ?_⟩
                         refine ⟨⟨?_, ?_⟩, ?_, ?_⟩
                         · omega
                         · rw [flds_next l r.fields hk] at hinv; unfold oneP at hinv
                           simp only [hc11, hc27, hc36, hg43, hc44, hc52, hc75, hg85, hc86, Bool.true_and, Bool.and_true, Bool.not_true, Bool.not_false, Bool.false_and, Bool.and_false, Bool.and_self, if_true, if_false, ↓reduceIte, Bool.false_eq_true, List.nil_append, List.append_assoc] at hinv ⊢
                           exact hinv
                         · first | omega | (dsimp only; omega)
                         · refine ⟨?_, ?_, ?_, ?_, ?_, ?_⟩ <;> (simp [subE, lk, AV.low, C.low, LB.low, Problem.ds, TagRule.ds, Fld.ds, Sub.ds, Rec.ds] <;> fail))
                      | (refine ⟨(k + 1, ver4 + 1, out4 ++ [⟨7, k, r.fields[k].tag, 0⟩]), ?_⟩
                         refine ⟨⟨?_, ?_⟩, ?_, ?_⟩
                         · omega
                         · rw [drop_end (by omega), needP, List.nil_append, authP] at hinv4
                           have hcd : (r.fields[k].auth ≠ 0 ∧ (getR l r.fields[k].tag).auth = 0) = True := by simp only [hc11, hc27, hc36, hg43, hc44, hc52, hc75, hg85, hc86, ne_eq, not_false_eq_true, and_self, and_true, true_and]
                           simp only [hcd, if_true] at hinv4
                           rw [List.append_assoc]; exact hinv4
                         · first | omega | (dsimp only; omega)
                         · refine ⟨?_, ?_, ?_, ?_, ?_, ?_⟩ <;> (simp [subE, lk, AV.low, C.low, LB.low, Problem.ds, TagRule.ds, Fld.ds, Sub.ds, Rec.ds] <;> fail))
                      | (refine ⟨(k + 1, ver4, out4), ?_⟩
                         refine ⟨⟨?_, ?_⟩, ?_, ?_⟩
                         · omega
                         · rw [drop_end (by omega), needP, List.nil_append, authP] at hinv4
                           have hcd : (r.fields[k].auth ≠ 0 ∧ (getR l r.fields[k].tag).auth = 0) = False := by simp only [hc11, hc27, hc36, hg43, hc44, hc52, hc75, hg85, hc86, ne_eq, not_false_eq_true, not_true_eq_false, and_false, false_and, and_self]
                           simp only [hcd, if_false, List.nil_append] at hinv4
                           exact hinv4
                         · first | omega | (dsimp only; omega)
                         · refine ⟨?_, ?_, ?_, ?_, ?_, ?_⟩ <;> (simp [subE, lk, AV.low, C.low, LB.low, Problem.ds, TagRule.ds, Fld.ds, Sub.ds, Rec.ds] <;> fail))
                · try simp only [decide_eq_true_eq, decide_eq_false_iff_not, Bool.not_eq_true', Bool.not_eq_false', Int.not_lt, Int.not_le, ne_eq, Decidable.not_not, bne_iff_ne, beq_iff_eq, Bool.and_eq_true, Bool.or_eq_true, Bool.and_eq_false_iff, Bool.or_eq_false_iff, Bool.not_not, Ax.u8eq] at hg85
                  simp only [del, ↓reduceIte, Nat.reduceEqDiff]
                  refine AXl.skip_guard (by decide : (171:Nat) < 183) rfl (by kernel_rfl) ?_
                  refine AXl.skip_guard (by decide : (172:Nat) < 183) rfl (by kernel_rfl) ?_
                  refine AXl.skip_guard (by decide : (173:Nat) < 183) rfl (by kernel_rfl) ?_
                  refine AXl.qt rfl (by decide : (174:Nat) < 183) (Still.qt (s_pick_f _ _ _ rfl)) ?_
                  refine AXl.nm_e0 ?_
                  refine AXl.nil ?_
                  refine hK84 _ ?_
                  clear hK84 K84
                  refine Ethen.n ?_
                  refine hK83 _ ?_
                  clear hK83 K83
                  refine AXc.cond_f rfl ?_
                  refine AXc.skip ?_
                  refine EinBlock.n ?_
                  refine Ethen.n ?_
                  refine hK28 _ ?_
                  clear hK28 K28
                  refine AXc.region' fun K90 hK90 => ?_
                  refine AXl.qt rfl (by decide : (53:Nat) < 183) (Still.qt (s_move _)) ?_
                  refine AXl.qt rfl (by decide : (54:Nat) < 183) (Still.qt (s_iar _ _ _ _ _ rfl rfl rfl (IntWalk.i64_in _ ⟨(by first | omega | (simp only [List.length_map, List.length_cons, List.length_nil, List.length_append, List.length_take, List.length_drop]; omega)), (by first | omega | (simp only [List.length_map, List.length_cons, List.length_nil, List.length_append, List.length_take, List.length_drop]; omega))⟩))) ?_
                  refine AXl.qt rfl (by decide : (7:Nat) < 183) (Still.qt (s_assign _)) ?_
                  refine AXl.nm_e0 ?_
                  refine AXl.nil ?_
                  refine hK90 _ ?_
                  clear hK90 K90
                  refine Ethen.n ?_
                  clear hK21 K21
                  first
                    | (refine ⟨(k + 1, ver + 1, out ++ [⟨2, k, r.fields[k].tag, 0⟩]), ?_⟩
                       refine ⟨⟨?_, ?_⟩, ?_, ?_⟩
                       · omega
                       · rw [flds_next l r.fields hk] at hinv; unfold oneP at hinv
                         simp only [hc11, hc27, hc36, hg43, hc44, hc52, hc75, hg85, Bool.true_and, Bool.and_true, Bool.not_true, Bool.not_false, Bool.false_and, Bool.and_false, Bool.and_self, if_true, if_false, ↓reduceIte, Bool.false_eq_true, List.nil_append, List.append_assoc] at hinv ⊢
                         exact hinv
                       · first | omega | (dsimp only; omega)
                       · refine ⟨?_, ?_, ?_, ?_, ?_, ?_⟩ <;> (simp [subE, lk, AV.low, C.low, LB.low, Problem.ds, TagRule.ds, Fld.ds, Sub.ds, Rec.ds] <;> fail))
                    | (refine ⟨(k + 1, ver4 + 1, out4 ++ [⟨7, k, r.fields[k].tag, 0⟩]), ?_⟩
                       refine ⟨⟨?_, ?_⟩, ?_, ?_⟩
                       · omega
                       · rw [drop_end (by omega), needP, List.nil_append, authP] at hinv4
                         have hcd : (r.fields[k].auth ≠ 0 ∧ (getR l r.fields[k].tag).auth = 0) = True := by simp only [hc11, hc27, hc36, hg43, hc44, hc52, hc75, hg85, ne_eq, not_false_eq_true, and_self, and_true, true_and]
                         simp only [hcd, if_true] at hinv4
                         rw [List.append_assoc]; exact hinv4
                       · first | omega | (dsimp only; omega)
                       · refine ⟨?_, ?_, ?_, ?_, ?_, ?_⟩ <;> (simp [subE, lk, AV.low, C.low, LB.low, Problem.ds, TagRule.ds, Fld.ds, Sub.ds, Rec.ds] <;> fail))
                    | (refine ⟨(k + 1, ver4, out4), ?_⟩
                       refine ⟨⟨?_, ?_⟩, ?_, ?_⟩
                       · omega
                       · rw [drop_end (by omega), needP, List.nil_append, authP] at hinv4
                         have hcd : (r.fields[k].auth ≠ 0 ∧ (getR l r.fields[k].tag).auth = 0) = False := by simp only [hc11, hc27, hc36, hg43, hc44, hc52, hc75, hg85, ne_eq, not_false_eq_true, not_true_eq_false, and_false, false_and, and_self]
                         simp only [hcd, if_false, List.nil_append] at hinv4
                         exact hinv4
                       · first | omega | (dsimp only; omega)
                       · refine ⟨?_, ?_, ?_, ?_, ?_, ?_⟩ <;> (simp [subE, lk, AV.low, C.low, LB.low, Problem.ds, TagRule.ds, Fld.ds, Sub.ds, Rec.ds] <;> fail))
          · try simp only [decide_eq_true_eq, decide_eq_false_iff_not, Bool.not_eq_true', Bool.not_eq_false', Int.not_lt, Int.not_le, ne_eq, Decidable.not_not, bne_iff_ne, beq_iff_eq, Bool.and_eq_true, Bool.or_eq_true, Bool.and_eq_false_iff, Bool.or_eq_false_iff, Bool.not_not, Ax.u8eq] at hc44
            refine AXc.skip ?_
            refine Ethen.n ?_
            refine hK40 _ ?_
            clear hK40 K40
            refine AXc.seq fun K91 hK91 => ?_
            refine AXc.seq fun K92 hK92 => ?_
            refine AXc.region' fun K93 hK93 => ?_
            refine AXl.qt rfl (by decide : (11:Nat) < 183) (Still.qt (s_assign _)) ?_
            refine AXl.nm_e0 ?_
            refine AXl.nil ?_
            refine hK93 _ ?_
            clear hK93 K93
            refine Ethen.n ?_
            refine hK92 _ ?_
            clear hK92 K92
            refine AXc.block ?_
            rw [flds_next l r.fields hk] at hinv; unfold oneP repP fieldP at hinv
            simp only [hc11, hc27, hc36, hg43, hc44, Bool.true_and, Bool.and_true, Bool.not_true, Bool.not_false, Bool.false_and, Bool.and_false, Bool.and_self, if_true, if_false, ↓reduceIte, Bool.false_eq_true, List.nil_append, List.append_assoc] at hinv
            first
              | refine AXc.loop (S := Nat × Nat × List Problem) (fun ⟨j, ver3, out3⟩ => ⟨[(0, .c (.d (.lst 7 (l.map TagRule.ds)))), (3, .c (.loc 0 0)), (5, .c (.own 1 ver3)), (7, .c (.d (.int .i64 k))), (8, .c (.loc 2 0)), (9, .c (.loc 3 0)), (11, .c (.d (.int .i64 j)))], [.box 27 (r.ds.map C.d), .row 41 4 (out3.map Problem.ds) ver3, .box 45 (Fld.ds r.fields[k] |>.map C.d), .box 29 (TagRule.ds (getR l r.fields[k].tag) |>.map C.d)]⟩) (fun ⟨j, ver3, out3⟩ => j ≤ r.fields[k].subs.length ∧ out3 ++ (subP (getR l r.fields[k].tag) r.fields[k].tag k (r.fields[k].subs.take j) (r.fields[k].subs.drop j) ++ (needP r.fields[k].tag k r.fields[k].subs (getR l r.fields[k].tag).needs ++ (authP (getR l r.fields[k].tag) r.fields[k] k ++ fldsP l (r.fields.take (k + 1)) (r.fields.drop (k + 1))))) = mustP r.fields l ++ fldsP l [] r.fields) (fun ⟨j, ver3, out3⟩ => r.fields[k].subs.length - j) (0, ver, out) ⟨by omega, by simpa only [List.take_zero, List.drop_zero, List.append_assoc] using hinv⟩ (by refine ⟨?_, ?_, ?_, ?_, ?_, ?_⟩ <;> (simp [subE, lk, AV.low, C.low, LB.low, Problem.ds, TagRule.ds, Fld.ds, Sub.ds, Rec.ds] <;> fail)) ?_
              | refine AXc.loop (S := Nat × Nat × List Problem) (fun ⟨j, ver3, out3⟩ => ⟨[(0, .c (.d (.lst 7 (l.map TagRule.ds)))), (3, .c (.loc 0 0)), (5, .c (.own 1 ver3)), (7, .c (.d (.int .i64 k))), (8, .c (.loc 2 0)), (9, .c (.loc 3 0)), (11, .c (.d (.int .i64 j)))], [.box 27 (r.ds.map C.d), .row 41 4 (out3.map Problem.ds) ver3, .box 45 (Fld.ds r.fields[k] |>.map C.d), .box 29 (TagRule.ds (getR l r.fields[k].tag) |>.map C.d)]⟩) (fun ⟨j, ver3, out3⟩ => j ≤ r.fields[k].subs.length ∧ out3 ++ (subP (getR l r.fields[k].tag) r.fields[k].tag k (r.fields[k].subs.take j) (r.fields[k].subs.drop j) ++ (needP r.fields[k].tag k r.fields[k].subs (getR l r.fields[k].tag).needs ++ (authP (getR l r.fields[k].tag) r.fields[k] k ++ fldsP l (r.fields.take (k + 1)) (r.fields.drop (k + 1))))) = mustP r.fields l ++ fldsP l [] r.fields) (fun ⟨j, ver3, out3⟩ => r.fields[k].subs.length - j) (0, ver + 1, out ++ [⟨3, k, r.fields[k].tag, 0⟩]) ⟨by omega, by simpa only [List.take_zero, List.drop_zero, List.append_assoc] using hinv⟩ (by refine ⟨?_, ?_, ?_, ?_, ?_, ?_⟩ <;> (simp [subE, lk, AV.low, C.low, LB.low, Problem.ds, TagRule.ds, Fld.ds, Sub.ds, Rec.ds] <;> fail)) ?_
            rintro ⟨j, ver3, out3⟩ ⟨hj0, hinv3⟩
            have hb3 := congrArg List.length hinv3; simp only [List.length_append] at hb3
            try simp only [Problem.ds, TagRule.ds, Fld.ds, Sub.ds, Rec.ds, indexByte_any, indexByte_any', ← List.map_take, Nat.sub_zero, tagd_pos, tagd_zero, cnt_pos, cnt_zero, List.take_length, List.map_cons, List.map_nil]
            refine AXc.seq fun K94 hK94 => ?_
            refine AXc.seq fun K95 hK95 => ?_
            refine AXc.region' fun K96 hK96 => ?_
            refine AXl.qt rfl (by decide : (94:Nat) < 183) (Still.qt (s_move _)) ?_
            first
              | refine AXl.qt rfl (by decide : (95:Nat) < 183) (Still.qt (s_field_loc _ _ _ fdT_45_2_e rfl)) ?_
              | refine AXl.qt rfl (by decide : (95:Nat) < 183) (Still.qt (s_field_ptr _ _ _ fdT_45_2_e rfl)) ?_
              | refine AXl.qt rfl (by decide : (95:Nat) < 183) (Still.qt (s_field_row _ _ _ fdT_45_2_e rfl rfl)) ?_
            first
              | refine AXl.qt rfl (by decide : (96:Nat) < 183) (Still.qt (s_load1 _ _ ldT_43_e rfl)) ?_
              | refine AXl.qt rfl (by decide : (96:Nat) < 183) (Still.qt (s_load1_row _ _ ldT_43_e rfl rfl (by first | rfl | exact List.getElem?_eq_getElem (by omega)) rfl)) ?_
            first
              | refine AXl.qt rfl (by decide : (97:Nat) < 183) (Still.qt (s_len _ _ Tryd.underlying43 rfl)) ?_
              | refine AXl.qt rfl (by decide : (97:Nat) < 183) (Still.qt (s_len_nil _ _ Tryd.underlying43 rfl)) ?_
            refine AXl.qt rfl (by decide : (98:Nat) < 183) (Still.qt (s_icmp _ _ _ _ _ rfl rfl rfl)) ?_
            refine AXl.nm_e0 ?_
            refine AXl.nil ?_
            refine hK96 _ ?_
            clear hK96 K96
            refine Ethen.n ?_
            refine hK95 _ ?_
            clear hK95 K95
            refine AXc.cond rfl (fun hc97 => ?_) (fun hc97 => ?_)
            · try simp only [decide_eq_true_eq, decide_eq_false_iff_not, Bool.not_eq_true', Bool.not_eq_false', Int.not_lt, Int.not_le, ne_eq, Decidable.not_not, bne_iff_ne, beq_iff_eq, Bool.and_eq_true, Bool.or_eq_true, Bool.and_eq_false_iff, Bool.or_eq_false_iff, Bool.not_not, Ax.u8eq] at hc97
              have hj : j < r.fields[k].subs.length := by omega
              refine AXc.skip ?_
              refine Ethen.n ?_
              refine hK94 _ ?_
              clear hK94 K94
              refine AXc.seq fun K98 hK98 => ?_
              refine AXc.block ?_
              refine AXc.seq fun K99 hK99 => ?_
              refine AXc.region' fun K100 hK100 => ?_
              first
                | refine AXl.qt rfl (by decide : (101:Nat) < 183) (Still.qt (s_field_loc _ _ _ fdT_45_2_e rfl)) ?_
                | refine AXl.qt rfl (by decide : (101:Nat) < 183) (Still.qt (s_field_ptr _ _ _ fdT_45_2_e rfl)) ?_
                | refine AXl.qt rfl (by decide : (101:Nat) < 183) (Still.qt (s_field_row _ _ _ fdT_45_2_e rfl rfl)) ?_
              first
                | refine AXl.qt rfl (by decide : (102:Nat) < 183) (Still.qt (s_load1 _ _ ldT_43_e rfl)) ?_
                | refine AXl.qt rfl (by decide : (102:Nat) < 183) (Still.qt (s_load1_row _ _ ldT_43_e rfl rfl (by first | rfl | exact List.getElem?_eq_getElem (by omega)) rfl)) ?_
              refine AXl.qt rfl (by decide : (103:Nat) < 183) (Still.qt (s_move _)) ?_
              first
                | refine AXl.qt rfl (by decide : (104:Nat) < 183) (Still.qt (s_index _ _ _ slT_43_e (.inl rfl) rfl rfl (by first | omega | (simp only [List.length_map, List.length_cons, List.length_nil, List.length_append, List.length_take, List.length_drop]; omega)) (List.getElem?_eq_getElem (by first | omega | (simp only [List.length_map, List.length_cons, List.length_nil, List.length_append, List.length_take, List.length_drop]; omega))))) ?_
                | refine AXl.qt rfl (by decide : (104:Nat) < 183) (Still.qt (s_index _ _ _ slT_43_e (.inr rfl) rfl rfl (by first | omega | (simp only [List.length_map, List.length_cons, List.length_nil, List.length_append, List.length_take, List.length_drop]; omega)) (List.getElem?_eq_getElem (by first | omega | (simp only [List.length_map, List.length_cons, List.length_nil, List.length_append, List.length_take, List.length_drop]; omega))))) ?_
                | refine AXl.qt rfl (by decide : (104:Nat) < 183) (Still.qt (s_index_own _ _ _ slT_43_e rfl rfl rfl rfl (by first | omega | (simp only [List.length_map, List.length_cons, List.length_nil, List.length_append, List.length_take, List.length_drop]; omega)) (by first | omega | (simp only [List.length_map, List.length_cons, List.length_nil, List.length_append, List.length_take, List.length_drop]; omega)))) ?_
              refine AXl.nm_e0 ?_
              first
                | refine AXl.qt rfl (by decide : (105:Nat) < 183) (Still.qt (s_field_loc _ _ _ fdT_55_0_e rfl)) ?_
                | refine AXl.qt rfl (by decide : (105:Nat) < 183) (Still.qt (s_field_ptr _ _ _ fdT_55_0_e rfl)) ?_
                | refine AXl.qt rfl (by decide : (105:Nat) < 183) (Still.qt (s_field_row _ _ _ fdT_55_0_e rfl rfl)) ?_
              first
                | refine AXl.qt rfl (by decide : (106:Nat) < 183) (Still.qt (s_load1 _ _ ldT_5_e rfl)) ?_
                | refine AXl.qt rfl (by decide : (106:Nat) < 183) (Still.qt (s_load1_row _ _ ldT_5_e rfl rfl (by first | rfl | exact List.getElem?_eq_getElem (by omega)) rfl)) ?_
              refine AXl.qt rfl (by decide : (12:Nat) < 183) (Still.qt (s_assign _)) ?_
              refine AXl.nm_e0 ?_
              refine AXl.nil ?_
              refine hK100 _ ?_
              clear hK100 K100
              refine Ethen.n ?_
              refine hK99 _ ?_
              clear hK99 K99
              refine AXc.seq fun K101 hK101 => ?_
              refine AXc.region' fun K102 hK102 => ?_
              first
                | refine AXl.qt rfl (by decide : (107:Nat) < 183) (Still.qt (s_field_loc _ _ _ fdT_29_3_e rfl)) ?_
                | refine AXl.qt rfl (by decide : (107:Nat) < 183) (Still.qt (s_field_ptr _ _ _ fdT_29_3_e rfl)) ?_
                | refine AXl.qt rfl (by decide : (107:Nat) < 183) (Still.qt (s_field_row _ _ _ fdT_29_3_e rfl rfl)) ?_
              first
                | refine AXl.qt rfl (by decide : (108:Nat) < 183) (Still.qt (s_load1 _ _ ldT_9_e rfl)) ?_
                | refine AXl.qt rfl (by decide : (108:Nat) < 183) (Still.qt (s_load1_row _ _ ldT_9_e rfl rfl (by first | rfl | exact List.getElem?_eq_getElem (by omega)) rfl)) ?_
              refine AXl.qt rfl (by decide : (109:Nat) < 183) (Still.qt (s_move _)) ?_
              refine AXl.nm_e0 ?_
              refine AXl.qt rfl (by decide : (110:Nat) < 183) (q_call (c28 _ _ ?hs) (.cons (by first | exact ArgOk.d | exact ArgOk.bor rfl | exact ArgOk.agg rfl | exact ArgOk.agg (toDs_map _) | exact ArgOk.nil_bor | exact ArgOk.nil_lst | exact ArgOk.fn | exact ArgOk.ptr rfl rfl | exact ArgOk.aggn rfl (by repeat first | exact .nil | refine .cons (.refl _) ?_ | refine .cons (.nil _) ?_)) (.cons (by first | exact ArgOk.d | exact ArgOk.bor rfl | exact ArgOk.agg rfl | exact ArgOk.agg (toDs_map _) | exact ArgOk.nil_bor | exact ArgOk.nil_lst | exact ArgOk.fn | exact ArgOk.ptr rfl rfl | exact ArgOk.aggn rfl (by repeat first | exact .nil | refine .cons (.refl _) ?_ | refine .cons (.nil _) ?_)) .nil))) ?_
              case hs => first | exact Nat.le_trans hokr.codes (by decide) | exact Nat.le_trans hokr.once (by decide)
              refine AXl.qt rfl (by decide : (111:Nat) < 183) (Still.qt (s_not _ _ rfl)) ?_
              refine AXl.nm_e0 ?_
              refine AXl.nil ?_
              refine hK102 _ ?_
              clear hK102 K102
              refine Ethen.n ?_
              refine hK101 _ ?_
              clear hK101 K101
              refine AXc.cond rfl (fun hc103 => ?_) (fun hc103 => ?_)
              · try simp only [decide_eq_true_eq, decide_eq_false_iff_not, Bool.not_eq_true', Bool.not_eq_false', Int.not_lt, Int.not_le, ne_eq, Decidable.not_not, bne_iff_ne, beq_iff_eq, Bool.and_eq_true, Bool.or_eq_true, Bool.and_eq_false_iff, Bool.or_eq_false_iff, Bool.not_not, Ax.u8eq] at hc103
                refine AXc.region' fun K104 hK104 => ?_
                refine AXl.qt rfl (by decide : (112:Nat) < 183) (Still.qt (s_move _)) ?_
                refine AXl.qt rfl (by decide : (113:Nat) < 183) (Still.qt (s_move _)) ?_
                first
                  | refine AXl.qt rfl (by decide : (114:Nat) < 183) (Still.qt (s_field_loc _ _ _ fdT_45_0_e rfl)) ?_
                  | refine AXl.qt rfl (by decide : (114:Nat) < 183) (Still.qt (s_field_ptr _ _ _ fdT_45_0_e rfl)) ?_
                  | refine AXl.qt rfl (by decide : (114:Nat) < 183) (Still.qt (s_field_row _ _ _ fdT_45_0_e rfl rfl)) ?_
                first
                  | refine AXl.qt rfl (by decide : (115:Nat) < 183) (Still.qt (s_load1 _ _ ldT_9_e rfl)) ?_
                  | refine AXl.qt rfl (by decide : (115:Nat) < 183) (Still.qt (s_load1_row _ _ ldT_9_e rfl rfl (by first | rfl | exact List.getElem?_eq_getElem (by omega)) rfl)) ?_
                refine AXl.qt rfl (by decide : (116:Nat) < 183) (Still.qt (s_move _)) ?_
                refine AXl.nm_e0 ?_
                refine AXl.qt rfl (by decide : (117:Nat) < 183) (q_call (c27 _ _ _ _) (.cons (by first | exact ArgOk.d | exact ArgOk.bor rfl | exact ArgOk.agg rfl | exact ArgOk.agg (toDs_map _) | exact ArgOk.nil_bor | exact ArgOk.nil_lst | exact ArgOk.fn | exact ArgOk.ptr rfl rfl | exact ArgOk.aggn rfl (by repeat first | exact .nil | refine .cons (.refl _) ?_ | refine .cons (.nil _) ?_)) (.cons (by first | exact ArgOk.d | exact ArgOk.bor rfl | exact ArgOk.agg rfl | exact ArgOk.agg (toDs_map _) | exact ArgOk.nil_bor | exact ArgOk.nil_lst | exact ArgOk.fn | exact ArgOk.ptr rfl rfl | exact ArgOk.aggn rfl (by repeat first | exact .nil | refine .cons (.refl _) ?_ | refine .cons (.nil _) ?_)) (.cons (by first | exact ArgOk.d | exact ArgOk.bor rfl | exact ArgOk.agg rfl | exact ArgOk.agg (toDs_map _) | exact ArgOk.nil_bor | exact ArgOk.nil_lst | exact ArgOk.fn | exact ArgOk.ptr rfl rfl | exact ArgOk.aggn rfl (by repeat first | exact .nil | refine .cons (.refl _) ?_ | refine .cons (.nil _) ?_)) (.cons (by first | exact ArgOk.d | exact ArgOk.bor rfl | exact ArgOk.agg rfl | exact ArgOk.agg (toDs_map _) | exact ArgOk.nil_bor | exact ArgOk.nil_lst | exact ArgOk.fn | exact ArgOk.ptr rfl rfl | exact ArgOk.aggn rfl (by repeat first | exact .nil | refine .cons (.refl _) ?_ | refine .cons (.nil _) ?_)) .nil))))) ?_
                refine AXl.qt rfl (by decide : (118:Nat) < 183) (q_buildSlice _ _ _ apT_35_e rfl rfl (by decide)) ?_
                first
                  | refine AXl.append apT_35_e rfl rfl rfl (by simp only [List.length_append, List.length_map, List.length_cons, List.length_nil]; omega) (by simp only [List.length_append, List.length_map, List.length_cons, List.length_nil]; omega) (by decide : (119:Nat) < 183) ?_
                  | refine AXl.append_nil apT_35_e rfl (by decide) rfl (by simp only [List.length_append, List.length_map, List.length_cons, List.length_nil]; omega) (by simp only [List.length_append, List.length_map, List.length_cons, List.length_nil]; omega) (by decide : (119:Nat) < 183) ?_
                refine AXl.qt rfl (by decide : (5:Nat) < 183) (Still.qt (s_assign _)) ?_
                refine AXl.nm_e0 ?_
                refine AXl.nil ?_
                refine hK104 _ ?_
                clear hK104 K104
                refine EinBlock.n ?_
                refine Ethen.n ?_
                refine hK98 _ ?_
                clear hK98 K98
                refine AXc.region' fun K105 hK105 => ?_
                refine AXl.qt rfl (by decide : (99:Nat) < 183) (Still.qt (s_move _)) ?_
                refine AXl.qt rfl (by decide : (100:Nat) < 183) (Still.qt (s_iar _ _ _ _ _ rfl rfl rfl (IntWalk.i64_in _ ⟨(by first | omega | (simp only [List.length_map, List.length_cons, List.length_nil, List.length_append, List.length_take, List.length_drop]; omega)), (by first | omega | (simp only [List.length_map, List.length_cons, List.length_nil, List.length_append, List.length_take, List.length_drop]; omega))⟩))) ?_
                refine AXl.qt rfl (by decide : (11:Nat) < 183) (Still.qt (s_assign _)) ?_
                refine AXl.nm_e0 ?_
                refine AXl.nil ?_
                refine hK105 _ ?_
                clear hK105 K105
                refine Ethen.n ?_
                clear hK21 K21 hK28 K28 hK91 K91
                rw [sub_next (getR l r.fields[k].tag) _ _ r.fields[k].subs hj] at hinv3
                first
                  | (refine ⟨(j + 1, ver3 + 1, out3 ++ [⟨4, k, r.fields[k].tag, r.fields[k].subs[j].code⟩]), ⟨by omega, ?_⟩, by first | omega | (dsimp only; omega), (by refine ⟨?_, ?_, ?_, ?_, ?_, ?_⟩ <;> (simp [subE, lk, AV.low, C.low, LB.low, Problem.ds, TagRule.ds, Fld.ds, Sub.ds, Rec.ds] <;> fail))⟩
                     simp only [hc11, hc27, hc36, hg43, hc44, hc97, hc103, Bool.true_and, Bool.and_true, Bool.not_true, Bool.not_false, Bool.false_and, Bool.and_false, Bool.and_self, if_true, if_false, ↓reduceIte, Bool.false_eq_true, List.nil_append, List.append_assoc] at hinv3 ⊢
                     exact hinv3)
                  | (refine ⟨(j + 1, ver3 + 1, out3 ++ [⟨5, k, r.fields[k].tag, r.fields[k].subs[j].code⟩]), ⟨by omega, ?_⟩, by first | omega | (dsimp only; omega), (by refine ⟨?_, ?_, ?_, ?_, ?_, ?_⟩ <;> (simp [subE, lk, AV.low, C.low, LB.low, Problem.ds, TagRule.ds, Fld.ds, Sub.ds, Rec.ds] <;> fail))⟩
                     simp only [hc11, hc27, hc36, hg43, hc44, hc97, hc103, Bool.true_and, Bool.and_true, Bool.not_true, Bool.not_false, Bool.false_and, Bool.and_false, Bool.and_self, if_true, if_false, ↓reduceIte, Bool.false_eq_true, List.nil_append, List.append_assoc] at hinv3 ⊢
                     exact hinv3)
                  | (refine ⟨(j + 1, ver3, out3), ⟨by omega, ?_⟩, by first | omega | (dsimp only; omega), (by refine ⟨?_, ?_, ?_, ?_, ?_, ?_⟩ <;> (simp [subE, lk, AV.low, C.low, LB.low, Problem.ds, TagRule.ds, Fld.ds, Sub.ds, Rec.ds] <;> fail))⟩
                     simp only [hc11, hc27, hc36, hg43, hc44, hc97, hc103, Bool.true_and, Bool.and_true, Bool.not_true, Bool.not_false, Bool.false_and, Bool.and_false, Bool.and_self, if_true, if_false, ↓reduceIte, Bool.false_eq_true, List.nil_append, List.append_assoc] at hinv3 ⊢
                     exact hinv3)
              · try simp only [decide_eq_true_eq, decide_eq_false_iff_not, Bool.not_eq_true', Bool.not_eq_false', Int.not_lt, Int.not_le, ne_eq, Decidable.not_not, bne_iff_ne, beq_iff_eq, Bool.and_eq_true, Bool.or_eq_true, Bool.and_eq_false_iff, Bool.or_eq_false_iff, Bool.not_not, Ax.u8eq] at hc103
                refine AXc.seq fun K106 hK106 => ?_
                refine AXc.region' fun K107 hK107 => ?_
                first
                  | refine AXl.qt rfl (by decide : (120:Nat) < 183) (Still.qt (s_field_loc _ _ _ fdT_29_4_e rfl)) ?_
                  | refine AXl.qt rfl (by decide : (120:Nat) < 183) (Still.qt (s_field_ptr _ _ _ fdT_29_4_e rfl)) ?_
                  | refine AXl.qt rfl (by decide : (120:Nat) < 183) (Still.qt (s_field_row _ _ _ fdT_29_4_e rfl rfl)) ?_
                first
                  | refine AXl.qt rfl (by decide : (121:Nat) < 183) (Still.qt (s_load1 _ _ ldT_9_e rfl)) ?_
                  | refine AXl.qt rfl (by decide : (121:Nat) < 183) (Still.qt (s_load1_row _ _ ldT_9_e rfl rfl (by first | rfl | exact List.getElem?_eq_getElem (by omega)) rfl)) ?_
                refine AXl.qt rfl (by decide : (122:Nat) < 183) (Still.qt (s_move _)) ?_
                refine AXl.nm_e0 ?_
                refine AXl.qt rfl (by decide : (123:Nat) < 183) (q_call (c28 _ _ ?hs) (.cons (by first | exact ArgOk.d | exact ArgOk.bor rfl | exact ArgOk.agg rfl | exact ArgOk.agg (toDs_map _) | exact ArgOk.nil_bor | exact ArgOk.nil_lst | exact ArgOk.fn | exact ArgOk.ptr rfl rfl | exact ArgOk.aggn rfl (by repeat first | exact .nil | refine .cons (.refl _) ?_ | refine .cons (.nil _) ?_)) (.cons (by first | exact ArgOk.d | exact ArgOk.bor rfl | exact ArgOk.agg rfl | exact ArgOk.agg (toDs_map _) | exact ArgOk.nil_bor | exact ArgOk.nil_lst | exact ArgOk.fn | exact ArgOk.ptr rfl rfl | exact ArgOk.aggn rfl (by repeat first | exact .nil | refine .cons (.refl _) ?_ | refine .cons (.nil _) ?_)) .nil))) ?_
                case hs => first | exact Nat.le_trans hokr.codes (by decide) | exact Nat.le_trans hokr.once (by decide)
                refine AXl.qt rfl (by decide : (124:Nat) < 183) (Still.qt (s_move _)) ?_
                refine AXl.nm_e0 ?_
                refine AXl.split 124 _ rfl (fun hg108 => ?_) (fun hg108 => ?_)
                · try simp only [decide_eq_true_eq, decide_eq_false_iff_not, Bool.not_eq_true', Bool.not_eq_false', Int.not_lt, Int.not_le, ne_eq, Decidable.not_not, bne_iff_ne, beq_iff_eq, Bool.and_eq_true, Bool.or_eq_true, Bool.and_eq_false_iff, Bool.or_eq_false_iff, Bool.not_not, Ax.u8eq] at hg108
                  simp only [del, ↓reduceIte, Nat.reduceEqDiff]
                  first
                    | refine AXl.qt_guard (by decide : (125:Nat) < 183) rfl (by kernel_rfl) (Still.qt (s_loadN _ _ ldT_45_e rfl (by simp [Problem.ds, TagRule.ds, Fld.ds, Sub.ds, Rec.ds]))) ?_
                    | refine AXl.qt_guard (by decide : (125:Nat) < 183) rfl (by kernel_rfl) (Still.qt (s_loadN_row _ _ ldT_45_e rfl rfl (by first | rfl | exact List.getElem?_eq_getElem (by omega)) (by simp [Problem.ds, TagRule.ds, Fld.ds, Sub.ds, Rec.ds]))) ?_
                  refine AXl.qt_guard (by decide : (126:Nat) < 183) rfl (by kernel_rfl) (Still.qt (s_move _)) ?_
                  refine AXl.qt_guard (by decide : (127:Nat) < 183) rfl (by kernel_rfl) (Still.qt (s_move _)) ?_
                  refine AXl.nm_e0 ?_
                  refine AXl.qt_guard (by decide : (128:Nat) < 183) rfl (by kernel_rfl) (q_call (c29 r.fields[k] _ _ ?hs ?ht) (.cons (by first | exact ArgOk.d | exact ArgOk.bor rfl | exact ArgOk.agg rfl | exact ArgOk.agg (toDs_map _) | exact ArgOk.nil_bor | exact ArgOk.nil_lst | exact ArgOk.fn | exact ArgOk.ptr rfl rfl | exact ArgOk.aggn rfl (by repeat first | exact .nil | refine .cons (.refl _) ?_ | refine .cons (.nil _) ?_)) (.cons (by first | exact ArgOk.d | exact ArgOk.bor rfl | exact ArgOk.agg rfl | exact ArgOk.agg (toDs_map _) | exact ArgOk.nil_bor | exact ArgOk.nil_lst | exact ArgOk.fn | exact ArgOk.ptr rfl rfl | exact ArgOk.aggn rfl (by repeat first | exact .nil | refine .cons (.refl _) ?_ | refine .cons (.nil _) ?_)) (.cons (by first | exact ArgOk.d | exact ArgOk.bor rfl | exact ArgOk.agg rfl | exact ArgOk.agg (toDs_map _) | exact ArgOk.nil_bor | exact ArgOk.nil_lst | exact ArgOk.fn | exact ArgOk.ptr rfl rfl | exact ArgOk.aggn rfl (by repeat first | exact .nil | refine .cons (.refl _) ?_ | refine .cons (.nil _) ?_)) .nil)))) ?_
                  case hs => omega
                  case ht => omega
                  refine AXl.qt_guard (by decide : (129:Nat) < 183) rfl (by kernel_rfl) (Still.qt (s_icmp _ _ _ _ _ rfl rfl rfl)) ?_
                  refine AXl.qt rfl (by decide : (130:Nat) < 183) (Still.qt (s_pick_t _ _ _ rfl)) ?_
                  refine AXl.nm_e0 ?_
                  refine AXl.nil ?_
                  refine hK107 _ ?_
                  clear hK107 K107
                  refine Ethen.n ?_
                  refine hK106 _ ?_
                  clear hK106 K106
                  refine AXc.cond rfl (fun hc109 => ?_) (fun hc109 => ?_)
                  · try simp only [decide_eq_true_eq, decide_eq_false_iff_not, Bool.not_eq_true', Bool.not_eq_false', Int.not_lt, Int.not_le, ne_eq, Decidable.not_not, bne_iff_ne, beq_iff_eq, Bool.and_eq_true, Bool.or_eq_true, Bool.and_eq_false_iff, Bool.or_eq_false_iff, Bool.not_not, Ax.u8eq] at hc109
                    refine AXc.region' fun K110 hK110 => ?_
                    refine AXl.qt rfl (by decide : (131:Nat) < 183) (Still.qt (s_move _)) ?_
                    refine AXl.qt rfl (by decide : (132:Nat) < 183) (Still.qt (s_move _)) ?_
                    first
                      | refine AXl.qt rfl (by decide : (133:Nat) < 183) (Still.qt (s_field_loc _ _ _ fdT_45_0_e rfl)) ?_
                      | refine AXl.qt rfl (by decide : (133:Nat) < 183) (Still.qt (s_field_ptr _ _ _ fdT_45_0_e rfl)) ?_
                      | refine AXl.qt rfl (by decide : (133:Nat) < 183) (Still.qt (s_field_row _ _ _ fdT_45_0_e rfl rfl)) ?_
                    first
                      | refine AXl.qt rfl (by decide : (134:Nat) < 183) (Still.qt (s_load1 _ _ ldT_9_e rfl)) ?_
                      | refine AXl.qt rfl (by decide : (134:Nat) < 183) (Still.qt (s_load1_row _ _ ldT_9_e rfl rfl (by first | rfl | exact List.getElem?_eq_getElem (by omega)) rfl)) ?_
                    refine AXl.qt rfl (by decide : (135:Nat) < 183) (Still.qt (s_move _)) ?_
                    refine AXl.nm_e0 ?_
                    refine AXl.qt rfl (by decide : (136:Nat) < 183) (q_call (c27 _ _ _ _) (.cons (by first | exact ArgOk.d | exact ArgOk.bor rfl | exact ArgOk.agg rfl | exact ArgOk.agg (toDs_map _) | exact ArgOk.nil_bor | exact ArgOk.nil_lst | exact ArgOk.fn | exact ArgOk.ptr rfl rfl | exact ArgOk.aggn rfl (by repeat first | exact .nil | refine .cons (.refl _) ?_ | refine .cons (.nil _) ?_)) (.cons (by first | exact ArgOk.d | exact ArgOk.bor rfl | exact ArgOk.agg rfl | exact ArgOk.agg (toDs_map _) | exact ArgOk.nil_bor | exact ArgOk.nil_lst | exact ArgOk.fn | exact ArgOk.ptr rfl rfl | exact ArgOk.aggn rfl (by repeat first | exact .nil | refine .cons (.refl _) ?_ | refine .cons (.nil _) ?_)) (.cons (by first | exact ArgOk.d | exact ArgOk.bor rfl | exact ArgOk.agg rfl | exact ArgOk.agg (toDs_map _) | exact ArgOk.nil_bor | exact ArgOk.nil_lst | exact ArgOk.fn | exact ArgOk.ptr rfl rfl | exact ArgOk.aggn rfl (by repeat first | exact .nil | refine .cons (.refl _) ?_ | refine .cons (.nil _) ?_)) (.cons (by first | exact ArgOk.d | exact ArgOk.bor rfl | exact ArgOk.agg rfl | exact ArgOk.agg (toDs_map _) | exact ArgOk.nil_bor | exact ArgOk.nil_lst | exact ArgOk.fn | exact ArgOk.ptr rfl rfl | exact ArgOk.aggn rfl (by repeat first | exact .nil | refine .cons (.refl _) ?_ | refine .cons (.nil _) ?_)) .nil))))) ?_
                    refine AXl.qt rfl (by decide : (137:Nat) < 183) (q_buildSlice _ _ _ apT_35_e rfl rfl (by decide)) ?_
                    first
                      | refine AXl.append apT_35_e rfl rfl rfl (by simp only [List.length_append, List.length_map, List.length_cons, List.length_nil]; omega) (by simp only [List.length_append, List.length_map, List.length_cons, List.length_nil]; omega) (by decide : (138:Nat) < 183) ?_
                      | refine AXl.append_nil apT_35_e rfl (by decide) rfl (by simp only [List.length_append, List.length_map, List.length_cons, List.length_nil]; omega) (by simp only [List.length_append, List.length_map, List.length_cons, List.length_nil]; omega) (by decide : (138:Nat) < 183) ?_
                    refine AXl.qt rfl (by decide : (5:Nat) < 183) (Still.qt (s_assign _)) ?_
                    refine AXl.nm_e0 ?_
                    refine AXl.nil ?_
                    refine hK110 _ ?_
                    clear hK110 K110
                    refine EinBlock.n ?_
                    refine Ethen.n ?_
                    refine hK98 _ ?_
                    clear hK98 K98
                    refine AXc.region' fun K111 hK111 => ?_
                    refine AXl.qt rfl (by decide : (99:Nat) < 183) (Still.qt (s_move _)) ?_
                    refine AXl.qt rfl (by decide : (100:Nat) < 183) (Still.qt (s_iar _ _ _ _ _ rfl rfl rfl (IntWalk.i64_in _ ⟨(by first | omega | (simp only [List.length_map, List.length_cons, List.length_nil, List.length_append, List.length_take, List.length_drop]; omega)), (by first | omega | (simp only [List.length_map, List.length_cons, List.length_nil, List.length_append, List.length_take, List.length_drop]; omega))⟩))) ?_
                    refine AXl.qt rfl (by decide : (11:Nat) < 183) (Still.qt (s_assign _)) ?_
                    refine AXl.nm_e0 ?_
                    refine AXl.nil ?_
                    refine hK111 _ ?_
                    clear hK111 K111
                    refine Ethen.n ?_
                    clear hK21 K21 hK28 K28 hK91 K91
                    rw [sub_next (getR l r.fields[k].tag) _ _ r.fields[k].subs hj] at hinv3
                    first
                      | (refine ⟨(j + 1, ver3 + 1, out3 ++ [⟨4, k, r.fields[k].tag, r.fields[k].subs[j].code⟩]), ⟨by omega, ?_⟩, by first | omega | (dsimp only; omega), (by refine ⟨?_, ?_, ?_, ?_, ?_, ?_⟩ <;> (simp [subE, lk, AV.low, C.low, LB.low, Problem.ds, TagRule.ds, Fld.ds, Sub.ds, Rec.ds] <;> fail))⟩
                         simp only [hc11, hc27, hc36, hg43, hc44, hc97, hc103, hg108, hc109, Bool.true_and, Bool.and_true, Bool.not_true, Bool.not_false, Bool.false_and, Bool.and_false, Bool.and_self, if_true, if_false, ↓reduceIte, Bool.false_eq_true, List.nil_append, List.append_assoc] at hinv3 ⊢
                         exact hinv3)
                      | (refine ⟨(j + 1, ver3 + 1, out3 ++ [⟨5, k, r.fields[k].tag, r.fields[k].subs[j].code⟩]), ⟨by omega, ?_⟩, by first | omega | (dsimp only; omega), (by refine ⟨?_, ?_, ?_, ?_, ?_, ?_⟩ <;> (simp [subE, lk, AV.low, C.low, LB.low, Problem.ds, TagRule.ds, Fld.ds, Sub.ds, Rec.ds] <;> fail))⟩
                         simp only [hc11, hc27, hc36, hg43, hc44, hc97, hc103, hg108, hc109, Bool.true_and, Bool.and_true, Bool.not_true, Bool.not_false, Bool.false_and, Bool.and_false, Bool.and_self, if_true, if_false, ↓reduceIte, Bool.false_eq_true, List.nil_append, List.append_assoc] at hinv3 ⊢
                         exact hinv3)
                      | (refine ⟨(j + 1, ver3, out3), ⟨by omega, ?_⟩, by first | omega | (dsimp only; omega), (by refine ⟨?_, ?_, ?_, ?_, ?_, ?_⟩ <;> (simp [subE, lk, AV.low, C.low, LB.low, Problem.ds, TagRule.ds, Fld.ds, Sub.ds, Rec.ds] <;> fail))⟩
                         simp only [hc11, hc27, hc36, hg43, hc44, hc97, hc103, hg108, hc109, Bool.true_and, Bool.and_true, Bool.not_true, Bool.not_false, Bool.false_and, Bool.and_false, Bool.and_self, if_true, if_false, ↓reduceIte, Bool.false_eq_true, List.nil_append, List.append_assoc] at hinv3 ⊢
                         exact hinv3)
                  · try simp only [decide_eq_true_eq, decide_eq_false_iff_not, Bool.not_eq_true', Bool.not_eq_false', Int.not_lt, Int.not_le, ne_eq, Decidable.not_not, bne_iff_ne, beq_iff_eq, Bool.and_eq_true, Bool.or_eq_true, Bool.and_eq_false_iff, Bool.or_eq_false_iff, Bool.not_not, Ax.u8eq] at hc109
                    refine AXc.skip ?_
                    refine EinBlock.n ?_
                    refine Ethen.n ?_
                    refine hK98 _ ?_
                    clear hK98 K98
                    refine AXc.region' fun K112 hK112 => ?_
                    refine AXl.qt rfl (by decide : (99:Nat) < 183) (Still.qt (s_move _)) ?_
                    refine AXl.qt rfl (by decide : (100:Nat) < 183) (Still.qt (s_iar _ _ _ _ _ rfl rfl rfl (IntWalk.i64_in _ ⟨(by first | omega | (simp only [List.length_map, List.length_cons, List.length_nil, List.length_append, List.length_take, List.length_drop]; omega)), (by first | omega | (simp only [List.length_map, List.length_cons, List.length_nil, List.length_append, List.length_take, List.length_drop]; omega))⟩))) ?_
                    refine AXl.qt rfl (by decide : (11:Nat) < 183) (Still.qt (s_assign _)) ?_
                    refine AXl.nm_e0 ?_
                    refine AXl.nil ?_
                    refine hK112 _ ?_
                    clear hK112 K112
                    refine Ethen.n ?_
                    clear hK21 K21 hK28 K28 hK91 K91
                    rw [sub_next (getR l r.fields[k].tag) _ _ r.fields[k].subs hj] at hinv3
                    first
                      | (refine ⟨(j + 1, ver3 + 1, out3 ++ [⟨4, k, r.fields[k].tag, r.fields[k].subs[j].code⟩]), ⟨by omega, ?_⟩, by first | omega | (dsimp only; omega), (by refine ⟨?_, ?_, ?_, ?_, ?_, ?_⟩ <;> (simp [subE, lk, AV.low, C.low, LB.low, Problem.ds, TagRule.ds, Fld.ds, Sub.ds, Rec.ds] <;> fail))⟩
                         simp only [hc11, hc27, hc36, hg43, hc44, hc97, hc103, hg108, hc109, Bool.true_and, Bool.and_true, Bool.not_true, Bool.not_false, Bool.false_and, Bool.and_false, Bool.and_self, if_true, if_false, ↓reduceIte, Bool.false_eq_true, List.nil_append, List.append_assoc] at hinv3 ⊢
                         exact hinv3)
                      | (refine ⟨(j + 1, ver3 + 1, out3 ++ [⟨5, k, r.fields[k].tag, r.fields[k].subs[j].code⟩]), ⟨by omega, ?_⟩, by first | omega | (dsimp only; omega), (by refine ⟨?_, ?_, ?_, ?_, ?_, ?_⟩ <;> (simp [subE, lk, AV.low, C.low, LB.low, Problem.ds, TagRule.ds, Fld.ds, Sub.ds, Rec.ds] <;> fail))⟩
                         simp only [hc11, hc27, hc36, hg43, hc44, hc97, hc103, hg108, hc109, Bool.true_and, Bool.and_true, Bool.not_true, Bool.not_false, Bool.false_and, Bool.and_false, Bool.and_self, if_true, if_false, ↓reduceIte, Bool.false_eq_true, List.nil_append, List.append_assoc] at hinv3 ⊢
                         exact hinv3)
                      | (refine ⟨(j + 1, ver3, out3), ⟨by omega, ?_⟩, by first | omega | (dsimp only; omega), (by refine ⟨?_, ?_, ?_, ?_, ?_, ?_⟩ <;> (simp [subE, lk, AV.low, C.low, LB.low, Problem.ds, TagRule.ds, Fld.ds, Sub.ds, Rec.ds] <;> fail))⟩
                         simp only [hc11, hc27, hc36, hg43, hc44, hc97, hc103, hg108, hc109, Bool.true_and, Bool.and_true, Bool.not_true, Bool.not_false, Bool.false_and, Bool.and_false, Bool.and_self, if_true, if_false, ↓reduceIte, Bool.false_eq_true, List.nil_append, List.append_assoc] at hinv3 ⊢
                         exact hinv3)
                · try simp only [decide_eq_true_eq, decide_eq_false_iff_not, Bool.not_eq_true', Bool.not_eq_false', Int.not_lt, Int.not_le, ne_eq, Decidable.not_not, bne_iff_ne, beq_iff_eq, Bool.and_eq_true, Bool.or_eq_true, Bool.and_eq_false_iff, Bool.or_eq_false_iff, Bool.not_not, Ax.u8eq] at hg108
                  simp only [del, ↓reduceIte, Nat.reduceEqDiff]
                  refine AXl.skip_guard (by decide : (125:Nat) < 183) rfl (by kernel_rfl) ?_
                  refine AXl.skip_guard (by decide : (126:Nat) < 183) rfl (by kernel_rfl) ?_
                  refine AXl.skip_guard (by decide : (127:Nat) < 183) rfl (by kernel_rfl) ?_
                  refine AXl.skip_guard (by decide : (128:Nat) < 183) rfl (by kernel_rfl) ?_
                  refine AXl.skip_guard (by decide : (129:Nat) < 183) rfl (by kernel_rfl) ?_
                  refine AXl.qt rfl (by decide : (130:Nat) < 183) (Still.qt (s_pick_f _ _ _ rfl)) ?_
                  refine AXl.nm_e0 ?_
                  refine AXl.nil ?_
                  refine hK107 _ ?_
                  clear hK107 K107
                  refine Ethen.n ?_
                  refine hK106 _ ?_
                  clear hK106 K106
                  refine AXc.cond_f rfl ?_
                  refine AXc.skip ?_
                  refine EinBlock.n ?_
                  refine Ethen.n ?_
                  refine hK98 _ ?_
                  clear hK98 K98
                  refine AXc.region' fun K113 hK113 => ?_
                  refine AXl.qt rfl (by decide : (99:Nat) < 183) (Still.qt (s_move _)) ?_
                  refine AXl.qt rfl (by decide : (100:Nat) < 183) (Still.qt (s_iar _ _ _ _ _ rfl rfl rfl (IntWalk.i64_in _ ⟨(by first | omega | (simp only [List.length_map, List.length_cons, List.length_nil, List.length_append, List.length_take, List.length_drop]; omega)), (by first | omega | (simp only [List.length_map, List.length_cons, List.length_nil, List.length_append, List.length_take, List.length_drop]; omega))⟩))) ?_
                  refine AXl.qt rfl (by decide : (11:Nat) < 183) (Still.qt (s_assign _)) ?_
                  refine AXl.nm_e0 ?_
                  refine AXl.nil ?_
                  refine hK113 _ ?_
                  clear hK113 K113
                  refine Ethen.n ?_
                  clear hK21 K21 hK28 K28 hK91 K91
                  rw [sub_next (getR l r.fields[k].tag) _ _ r.fields[k].subs hj] at hinv3
                  first
                    | (refine ⟨(j + 1, ver3 + 1, out3 ++ [⟨4, k, r.fields[k].tag, r.fields[k].subs[j].code⟩]), ⟨by omega, ?_⟩, by first | omega | (dsimp only; omega), (by refine ⟨?_, ?_, ?_, ?_, ?_, ?_⟩ <;> (simp [subE, lk, AV.low, C.low, LB.low, Problem.ds, TagRule.ds, Fld.ds, Sub.ds, Rec.ds] <;> fail))⟩
                       simp only [hc11, hc27, hc36, hg43, hc44, hc97, hc103, hg108, Bool.true_and, Bool.and_true, Bool.not_true, Bool.not_false, Bool.false_and, Bool.and_false, Bool.and_self, if_true, if_false, ↓reduceIte, Bool.false_eq_true, List.nil_append, List.append_assoc] at hinv3 ⊢
                       exact hinv3)
                    | (refine ⟨(j + 1, ver3 + 1, out3 ++ [⟨5, k, r.fields[k].tag, r.fields[k].subs[j].code⟩]), ⟨by omega, ?_⟩, by first | omega | (dsimp only; omega), (by refine ⟨?_, ?_, ?_, ?_, ?_, ?_⟩ <;> (simp [subE, lk, AV.low, C.low, LB.low, Problem.ds, TagRule.ds, Fld.ds, Sub.ds, Rec.ds] <;> fail))⟩
                       simp only [hc11, hc27, hc36, hg43, hc44, hc97, hc103, hg108, Bool.true_and, Bool.and_true, Bool.not_true, Bool.not_false, Bool.false_and, Bool.and_false, Bool.and_self, if_true, if_false, ↓reduceIte, Bool.false_eq_true, List.nil_append, List.append_assoc] at hinv3 ⊢
                       exact hinv3)
                    | (refine ⟨(j + 1, ver3, out3), ⟨by omega, ?_⟩, by first | omega | (dsimp only; omega), (by refine ⟨?_, ?_, ?_, ?_, ?_, ?_⟩ <;> (simp [subE, lk, AV.low, C.low, LB.low, Problem.ds, TagRule.ds, Fld.ds, Sub.ds, Rec.ds] <;> fail))⟩
                       simp only [hc11, hc27, hc36, hg43, hc44, hc97, hc103, hg108, Bool.true_and, Bool.and_true, Bool.not_true, Bool.not_false, Bool.false_and, Bool.and_false, Bool.and_self, if_true, if_false, ↓reduceIte, Bool.false_eq_true, List.nil_append, List.append_assoc] at hinv3 ⊢
                       exact hinv3)
            · try simp only [decide_eq_true_eq, decide_eq_false_iff_not, Bool.not_eq_true', Bool.not_eq_false', Int.not_lt, Int.not_le, ne_eq, Decidable.not_not, bne_iff_ne, beq_iff_eq, Bool.and_eq_true, Bool.or_eq_true, Bool.and_eq_false_iff, Bool.or_eq_false_iff, Bool.not_not, Ax.u8eq] at hc97
              refine AXc.exit ?_
              refine Ethen.e ?_
              clear hK94 K94
              refine Ethen.e ?_
              refine EinBlock.hit ?_
              refine Ethen.n ?_
              refine hK91 _ ?_
              clear hK91 K91
              refine AXc.seq fun K114 hK114 => ?_
              refine AXc.seq fun K115 hK115 => ?_
              refine AXc.region' fun K116 hK116 => ?_
              refine AXl.qt rfl (by decide : (13:Nat) < 183) (Still.qt (s_assign _)) ?_
              refine AXl.nm_e0 ?_
              refine AXl.nil ?_
              refine hK116 _ ?_
              clear hK116 K116
              refine Ethen.n ?_
              refine hK115 _ ?_
              clear hK115 K115
              refine AXc.block ?_
              refine AXc.loop (S := Nat × Nat × List Problem) (fun ⟨j, ver4, out4⟩ => ⟨[(0, .c (.d (.lst 7 (l.map TagRule.ds)))), (3, .c (.loc 0 0)), (5, .c (.own 1 ver4)), (7, .c (.d (.int .i64 k))), (8, .c (.loc 2 0)), (9, .c (.loc 3 0)), (13, .c (.d (.int .i64 j)))], [.box 27 (r.ds.map C.d), .row 41 4 (out4.map Problem.ds) ver4, .box 45 (Fld.ds r.fields[k] |>.map C.d), .box 29 (TagRule.ds (getR l r.fields[k].tag) |>.map C.d)]⟩) (fun ⟨j, ver4, out4⟩ => j ≤ (getR l r.fields[k].tag).needs.length ∧ out4 ++ (needP r.fields[k].tag k r.fields[k].subs ((getR l r.fields[k].tag).needs.drop j) ++ (authP (getR l r.fields[k].tag) r.fields[k] k ++ fldsP l (r.fields.take (k + 1)) (r.fields.drop (k + 1)))) = mustP r.fields l ++ fldsP l [] r.fields) (fun ⟨j, ver4, out4⟩ => (getR l r.fields[k].tag).needs.length - j) (0, ver3, out3) ⟨by omega, by rw [drop_end (by omega), subP, List.nil_append] at hinv3; exact hinv3⟩ (by refine ⟨?_, ?_, ?_, ?_, ?_, ?_⟩ <;> (simp [subE, lk, AV.low, C.low, LB.low, Problem.ds, TagRule.ds, Fld.ds, Sub.ds, Rec.ds] <;> fail)) ?_
              rintro ⟨j, ver4, out4⟩ ⟨hj0, hinv4⟩
              have hb4 := congrArg List.length hinv4; simp only [List.length_append] at hb4
              try simp only [Problem.ds, TagRule.ds, Fld.ds, Sub.ds, Rec.ds, indexByte_any, indexByte_any', ← List.map_take, Nat.sub_zero, tagd_pos, tagd_zero, cnt_pos, cnt_zero, List.take_length, List.map_cons, List.map_nil]
              refine AXc.seq fun K117 hK117 => ?_
              refine AXc.seq fun K118 hK118 => ?_
              refine AXc.region' fun K119 hK119 => ?_
              refine AXl.qt rfl (by decide : (139:Nat) < 183) (Still.qt (s_move _)) ?_
              first
                | refine AXl.qt rfl (by decide : (140:Nat) < 183) (Still.qt (s_field_loc _ _ _ fdT_29_5_e rfl)) ?_
                | refine AXl.qt rfl (by decide : (140:Nat) < 183) (Still.qt (s_field_ptr _ _ _ fdT_29_5_e rfl)) ?_
                | refine AXl.qt rfl (by decide : (140:Nat) < 183) (Still.qt (s_field_row _ _ _ fdT_29_5_e rfl rfl)) ?_
              first
                | refine AXl.qt rfl (by decide : (141:Nat) < 183) (Still.qt (s_load1 _ _ ldT_9_e rfl)) ?_
                | refine AXl.qt rfl (by decide : (141:Nat) < 183) (Still.qt (s_load1_row _ _ ldT_9_e rfl rfl (by first | rfl | exact List.getElem?_eq_getElem (by omega)) rfl)) ?_
              refine AXl.qt rfl (by decide : (142:Nat) < 183) (Still.qt (s_len_str _ _ Tryd.underlying9 rfl)) ?_
              refine AXl.qt rfl (by decide : (143:Nat) < 183) (Still.qt (s_icmp _ _ _ _ _ rfl rfl rfl)) ?_
              refine AXl.nm_e0 ?_
              refine AXl.nil ?_
              refine hK119 _ ?_
              clear hK119 K119
              refine Ethen.n ?_
              refine hK118 _ ?_
              clear hK118 K118
              refine AXc.cond rfl (fun hc120 => ?_) (fun hc120 => ?_)
              · try simp only [decide_eq_true_eq, decide_eq_false_iff_not, Bool.not_eq_true', Bool.not_eq_false', Int.not_lt, Int.not_le, ne_eq, Decidable.not_not, bne_iff_ne, beq_iff_eq, Bool.and_eq_true, Bool.or_eq_true, Bool.and_eq_false_iff, Bool.or_eq_false_iff, Bool.not_not, Ax.u8eq] at hc120
                have hj4 : j < (getR l r.fields[k].tag).needs.length := by omega
                refine AXc.skip ?_
                refine Ethen.n ?_
                refine hK117 _ ?_
                clear hK117 K117
                refine AXc.seq fun K121 hK121 => ?_
                refine AXc.block ?_
                refine AXc.seq fun K122 hK122 => ?_
                refine AXc.draw' mixed_e 10 (by kernel_rfl) fun K123 hK123 => ?_
                simp only [List.take_succ_cons, List.take_zero, List.take_nil, List.drop_succ_cons, List.drop_zero, List.drop_nil]
                first
                  | refine AXd.op rfl (Still.qt (s_loadN _ _ ldT_45_e rfl (by simp [Problem.ds, TagRule.ds, Fld.ds, Sub.ds, Rec.ds]))) ?_
                  | refine AXd.op rfl (Still.qt (s_loadN_row _ _ ldT_45_e rfl rfl (by first | rfl | exact List.getElem?_eq_getElem (by omega)) (by simp [Problem.ds, TagRule.ds, Fld.ds, Sub.ds, Rec.ds]))) ?_
                first
                  | refine AXd.op rfl (Still.qt (s_field_loc _ _ _ fdT_45_2_e rfl)) ?_
                  | refine AXd.op rfl (Still.qt (s_field_ptr _ _ _ fdT_45_2_e rfl)) ?_
                  | refine AXd.op rfl (Still.qt (s_field_row _ _ _ fdT_45_2_e rfl rfl)) ?_
                first
                  | refine AXd.op rfl (Still.qt (s_load1 _ _ ldT_43_e rfl)) ?_
                  | refine AXd.op rfl (Still.qt (s_load1_row _ _ ldT_43_e rfl rfl (by first | rfl | exact List.getElem?_eq_getElem (by omega)) rfl)) ?_
                first
                  | refine AXd.op rfl (Still.qt (s_len _ _ Tryd.underlying43 rfl)) ?_
                  | refine AXd.op rfl (Still.qt (s_len_nil _ _ Tryd.underlying43 rfl)) ?_
                first
                  | refine AXd.op rfl (Still.qt (s_field_loc _ _ _ fdT_29_5_e rfl)) ?_
                  | refine AXd.op rfl (Still.qt (s_field_ptr _ _ _ fdT_29_5_e rfl)) ?_
                  | refine AXd.op rfl (Still.qt (s_field_row _ _ _ fdT_29_5_e rfl rfl)) ?_
                first
                  | refine AXd.op rfl (Still.qt (s_load1 _ _ ldT_9_e rfl)) ?_
                  | refine AXd.op rfl (Still.qt (s_load1_row _ _ ldT_9_e rfl rfl (by first | rfl | exact List.getElem?_eq_getElem (by omega)) rfl)) ?_
                refine AXd.op rfl (Still.qt (s_move _)) ?_
                refine AXd.nm_e0 ?_
                refine AXd.op rfl (Still.qt (s_index_str _ _ _ Tryd.underlying9 rfl rfl (by first | omega | (simp only [List.length_map, List.length_cons, List.length_nil, List.length_append, List.length_take, List.length_drop]; omega)) (List.getElem?_eq_getElem (by first | omega | (simp only [List.length_map, List.length_cons, List.length_nil, List.length_append, List.length_take, List.length_drop]; omega))))) ?_
                refine AXd.nm_e0 ?_
                refine AXd.op rfl (q_call (c29 r.fields[k] _ _ ?hs ?ht) (.cons (by first | exact ArgOk.d | exact ArgOk.bor rfl | exact ArgOk.agg rfl | exact ArgOk.agg (toDs_map _) | exact ArgOk.nil_bor | exact ArgOk.nil_lst | exact ArgOk.fn | exact ArgOk.ptr rfl rfl | exact ArgOk.aggn rfl (by repeat first | exact .nil | refine .cons (.refl _) ?_ | refine .cons (.nil _) ?_)) (.cons (by first | exact ArgOk.d | exact ArgOk.bor rfl | exact ArgOk.agg rfl | exact ArgOk.agg (toDs_map _) | exact ArgOk.nil_bor | exact ArgOk.nil_lst | exact ArgOk.fn | exact ArgOk.ptr rfl rfl | exact ArgOk.aggn rfl (by repeat first | exact .nil | refine .cons (.refl _) ?_ | refine .cons (.nil _) ?_)) (.cons (by first | exact ArgOk.d | exact ArgOk.bor rfl | exact ArgOk.agg rfl | exact ArgOk.agg (toDs_map _) | exact ArgOk.nil_bor | exact ArgOk.nil_lst | exact ArgOk.fn | exact ArgOk.ptr rfl rfl | exact ArgOk.aggn rfl (by repeat first | exact .nil | refine .cons (.refl _) ?_ | refine .cons (.nil _) ?_)) .nil)))) ?_
                case hs => omega
                case ht => omega
                refine AXd.op rfl (Still.qt (s_icmp _ _ _ _ _ rfl rfl rfl)) ?_
                refine AXd.nm_e0 ?_
                refine AXd.nil ?_
                refine AXl.nil ?_
                refine hK123 _ ?_
                clear hK123 K123
                refine Ethen.n ?_
                refine hK122 _ ?_
                clear hK122 K122
                refine AXc.cond rfl (fun hc124 => ?_) (fun hc124 => ?_)
                · try simp only [decide_eq_true_eq, decide_eq_false_iff_not, Bool.not_eq_true', Bool.not_eq_false', Int.not_lt, Int.not_le, ne_eq, Decidable.not_not, bne_iff_ne, beq_iff_eq, Bool.and_eq_true, Bool.or_eq_true, Bool.and_eq_false_iff, Bool.or_eq_false_iff, Bool.not_not, Ax.u8eq] at hc124
                  refine AXc.draw' mixed_e 10 (by kernel_rfl) fun K125 hK125 => ?_
                  simp only [List.take_succ_cons, List.take_zero, List.take_nil, List.drop_succ_cons, List.drop_zero, List.drop_nil]
                  refine AXd.op rfl (Still.qt (s_move _)) ?_
                  refine AXd.op rfl (Still.qt (s_move _)) ?_
                  first
                    | refine AXd.op rfl (Still.qt (s_field_loc _ _ _ fdT_45_0_e rfl)) ?_
                    | refine AXd.op rfl (Still.qt (s_field_ptr _ _ _ fdT_45_0_e rfl)) ?_
                    | refine AXd.op rfl (Still.qt (s_field_row _ _ _ fdT_45_0_e rfl rfl)) ?_
                  first
                    | refine AXd.op rfl (Still.qt (s_load1 _ _ ldT_9_e rfl)) ?_
                    | refine AXd.op rfl (Still.qt (s_load1_row _ _ ldT_9_e rfl rfl (by first | rfl | exact List.getElem?_eq_getElem (by omega)) rfl)) ?_
                  first
                    | refine AXd.op rfl (Still.qt (s_field_loc _ _ _ fdT_29_5_e rfl)) ?_
                    | refine AXd.op rfl (Still.qt (s_field_ptr _ _ _ fdT_29_5_e rfl)) ?_
                    | refine AXd.op rfl (Still.qt (s_field_row _ _ _ fdT_29_5_e rfl rfl)) ?_
                  first
                    | refine AXd.op rfl (Still.qt (s_load1 _ _ ldT_9_e rfl)) ?_
                    | refine AXd.op rfl (Still.qt (s_load1_row _ _ ldT_9_e rfl rfl (by first | rfl | exact List.getElem?_eq_getElem (by omega)) rfl)) ?_
                  refine AXd.op rfl (Still.qt (s_move _)) ?_
                  refine AXd.nm_e0 ?_
                  refine AXd.op rfl (Still.qt (s_index_str _ _ _ Tryd.underlying9 rfl rfl (by first | omega | (simp only [List.length_map, List.length_cons, List.length_nil, List.length_append, List.length_take, List.length_drop]; omega)) (List.getElem?_eq_getElem (by first | omega | (simp only [List.length_map, List.length_cons, List.length_nil, List.length_append, List.length_take, List.length_drop]; omega))))) ?_
                  refine AXd.nm_e0 ?_
                  refine AXd.op rfl (q_call (c27 _ _ _ _) (.cons (by first | exact ArgOk.d | exact ArgOk.bor rfl | exact ArgOk.agg rfl | exact ArgOk.agg (toDs_map _) | exact ArgOk.nil_bor | exact ArgOk.nil_lst | exact ArgOk.fn | exact ArgOk.ptr rfl rfl | exact ArgOk.aggn rfl (by repeat first | exact .nil | refine .cons (.refl _) ?_ | refine .cons (.nil _) ?_)) (.cons (by first | exact ArgOk.d | exact ArgOk.bor rfl | exact ArgOk.agg rfl | exact ArgOk.agg (toDs_map _) | exact ArgOk.nil_bor | exact ArgOk.nil_lst | exact ArgOk.fn | exact ArgOk.ptr rfl rfl | exact ArgOk.aggn rfl (by repeat first | exact .nil | refine .cons (.refl _) ?_ | refine .cons (.nil _) ?_)) (.cons (by first | exact ArgOk.d | exact ArgOk.bor rfl | exact ArgOk.agg rfl | exact ArgOk.agg (toDs_map _) | exact ArgOk.nil_bor | exact ArgOk.nil_lst | exact ArgOk.fn | exact ArgOk.ptr rfl rfl | exact ArgOk.aggn rfl (by repeat first | exact .nil | refine .cons (.refl _) ?_ | refine .cons (.nil _) ?_)) (.cons (by first | exact ArgOk.d | exact ArgOk.bor rfl | exact ArgOk.agg rfl | exact ArgOk.agg (toDs_map _) | exact ArgOk.nil_bor | exact ArgOk.nil_lst | exact ArgOk.fn | exact ArgOk.ptr rfl rfl | exact ArgOk.aggn rfl (by repeat first | exact .nil | refine .cons (.refl _) ?_ | refine .cons (.nil _) ?_)) .nil))))) ?_
                  refine AXd.op rfl (q_buildSlice _ _ _ apT_35_e rfl rfl (by decide)) ?_
                  refine AXd.nm_e0 ?_
                  refine AXd.nil ?_
                  first
                    | refine AXl.append apT_35_e rfl rfl rfl (by simp only [List.length_append, List.length_map, List.length_cons, List.length_nil]; omega) (by simp only [List.length_append, List.length_map, List.length_cons, List.length_nil]; omega) (by decide : (166:Nat) < 183) ?_
                    | refine AXl.append_nil apT_35_e rfl (by decide) rfl (by simp only [List.length_append, List.length_map, List.length_cons, List.length_nil]; omega) (by simp only [List.length_append, List.length_map, List.length_cons, List.length_nil]; omega) (by decide : (166:Nat) < 183) ?_
                  refine AXl.qt rfl (by decide : (5:Nat) < 183) (Still.qt (s_assign _)) ?_
                  refine AXl.nm_e0 ?_
                  refine AXl.nil ?_
                  refine hK125 _ ?_
                  clear hK125 K125
                  refine EinBlock.n ?_
                  refine Ethen.n ?_
                  refine hK121 _ ?_
                  clear hK121 K121
                  refine AXc.region' fun K126 hK126 => ?_
                  refine AXl.qt rfl (by decide : (144:Nat) < 183) (Still.qt (s_move _)) ?_
                  refine AXl.qt rfl (by decide : (145:Nat) < 183) (Still.qt (s_iar _ _ _ _ _ rfl rfl rfl (IntWalk.i64_in _ ⟨(by first | omega | (simp only [List.length_map, List.length_cons, List.length_nil, List.length_append, List.length_take, List.length_drop]; omega)), (by first | omega | (simp only [List.length_map, List.length_cons, List.length_nil, List.length_append, List.length_take, List.length_drop]; omega))⟩))) ?_
                  refine AXl.qt rfl (by decide : (13:Nat) < 183) (Still.qt (s_assign _)) ?_
                  refine AXl.nm_e0 ?_
                  refine AXl.nil ?_
                  refine hK126 _ ?_
                  clear hK126 K126
                  refine Ethen.n ?_
                  clear hK21 K21 hK28 K28 hK114 K114
                  rw [need_next _ _ r.fields[k].subs _ hj4] at hinv4
                  first
                    | (refine ⟨(j + 1, ver4 + 1, out4 ++ [⟨6, k, r.fields[k].tag, (getR l r.fields[k].tag).needs[j]⟩]), ⟨by omega, ?_⟩, by first | omega | (dsimp only; omega), (by refine ⟨?_, ?_, ?_, ?_, ?_, ?_⟩ <;> (simp [subE, lk, AV.low, C.low, LB.low, Problem.ds, TagRule.ds, Fld.ds, Sub.ds, Rec.ds] <;> fail))⟩
                       simp only [hc11, hc27, hc36, hg43, hc44, hc97, hc120, hc124, Bool.true_and, Bool.and_true, Bool.not_true, Bool.not_false, Bool.false_and, Bool.and_false, Bool.and_self, if_true, if_false, ↓reduceIte, Bool.false_eq_true, List.nil_append, List.append_assoc] at hinv4 ⊢
                       exact hinv4)
                    | (refine ⟨(j + 1, ver4, out4), ⟨by omega, ?_⟩, by first | omega | (dsimp only; omega), (by refine ⟨?_, ?_, ?_, ?_, ?_, ?_⟩ <;> (simp [subE, lk, AV.low, C.low, LB.low, Problem.ds, TagRule.ds, Fld.ds, Sub.ds, Rec.ds] <;> fail))⟩
                       simp only [hc11, hc27, hc36, hg43, hc44, hc97, hc120, hc124, Bool.true_and, Bool.and_true, Bool.not_true, Bool.not_false, Bool.false_and, Bool.and_false, Bool.and_self, if_true, if_false, ↓reduceIte, Bool.false_eq_true, List.nil_append, List.append_assoc] at hinv4 ⊢
                       exact hinv4)
                · try simp only [decide_eq_true_eq, decide_eq_false_iff_not, Bool.not_eq_true', Bool.not_eq_false', Int.not_lt, Int.not_le, ne_eq, Decidable.not_not, bne_iff_ne, beq_iff_eq, Bool.and_eq_true, Bool.or_eq_true, Bool.and_eq_false_iff, Bool.or_eq_false_iff, Bool.not_not, Ax.u8eq] at hc124
                  refine AXc.skip ?_
                  refine EinBlock.n ?_
                  refine Ethen.n ?_
                  refine hK121 _ ?_
                  clear hK121 K121
                  refine AXc.region' fun K127 hK127 => ?_
                  refine AXl.qt rfl (by decide : (144:Nat) < 183) (Still.qt (s_move _)) ?_
                  refine AXl.qt rfl (by decide : (145:Nat) < 183) (Still.qt (s_iar _ _ _ _ _ rfl rfl rfl (IntWalk.i64_in _ ⟨(by first | omega | (simp only [List.length_map, List.length_cons, List.length_nil, List.length_append, List.length_take, List.length_drop]; omega)), (by first | omega | (simp only [List.length_map, List.length_cons, List.length_nil, List.length_append, List.length_take, List.length_drop]; omega))⟩))) ?_
                  refine AXl.qt rfl (by decide : (13:Nat) < 183) (Still.qt (s_assign _)) ?_
                  refine AXl.nm_e0 ?_
                  refine AXl.nil ?_
                  refine hK127 _ ?_
                  clear hK127 K127
                  refine Ethen.n ?_
                  clear hK21 K21 hK28 K28 hK114 K114
                  rw [need_next _ _ r.fields[k].subs _ hj4] at hinv4
                  first
                    | (refine ⟨(j + 1, ver4 + 1, out4 ++ [⟨6, k, r.fields[k].tag, (getR l r.fields[k].tag).needs[j]⟩]), ⟨by omega, ?_⟩, by first | omega | (dsimp only; omega), (by refine ⟨?_, ?_, ?_, ?_, ?_, ?_⟩ <;> (simp [subE, lk, AV.low, C.low, LB.low, Problem.ds, TagRule.ds, Fld.ds, Sub.ds, Rec.ds] <;> fail))⟩
                       simp only [hc11, hc27, hc36, hg43, hc44, hc97, hc120, hc124, Bool.true_and, Bool.and_true, Bool.not_true, Bool.not_false, Bool.false_and, Bool.and_false, Bool.and_self, if_true, if_false, ↓reduceIte, Bool.false_eq_true, List.nil_append, List.append_assoc] at hinv4 ⊢
                       exact hinv4)
                    | (refine ⟨(j + 1, ver4, out4), ⟨by omega, ?_⟩, by first | omega | (dsimp only; omega), (by refine ⟨?_, ?_, ?_, ?_, ?_, ?_⟩ <;> (simp [subE, lk, AV.low, C.low, LB.low, Problem.ds, TagRule.ds, Fld.ds, Sub.ds, Rec.ds] <;> fail))⟩
                       simp only [hc11, hc27, hc36, hg43, hc44, hc97, hc120, hc124, Bool.true_and, Bool.and_true, Bool.not_true, Bool.not_false, Bool.false_and, Bool.and_false, Bool.and_self, if_true, if_false, ↓reduceIte, Bool.false_eq_true, List.nil_append, List.append_assoc] at hinv4 ⊢
                       exact hinv4)
              · try simp only [decide_eq_true_eq, decide_eq_false_iff_not, Bool.not_eq_true', Bool.not_eq_false', Int.not_lt, Int.not_le, ne_eq, Decidable.not_not, bne_iff_ne, beq_iff_eq, Bool.and_eq_true, Bool.or_eq_true, Bool.and_eq_false_iff, Bool.or_eq_false_iff, Bool.not_not, Ax.u8eq] at hc120
                refine AXc.exit ?_
                refine Ethen.e ?_
                clear hK117 K117
                refine Ethen.e ?_
                refine EinBlock.hit ?_
                refine Ethen.n ?_
                refine hK114 _ ?_
                clear hK114 K114
                refine AXc.seq fun K128 hK128 => ?_
                refine AXc.region' fun K129 hK129 => ?_
                first
                  | refine AXl.qt rfl (by decide : (167:Nat) < 183) (Still.qt (s_field_loc _ _ _ fdT_45_3_e rfl)) ?_
                  | refine AXl.qt rfl (by decide : (167:Nat) < 183) (Still.qt (s_field_ptr _ _ _ fdT_45_3_e rfl)) ?_
                  | refine AXl.qt rfl (by decide : (167:Nat) < 183) (Still.qt (s_field_row _ _ _ fdT_45_3_e rfl rfl)) ?_
                first
                  | refine AXl.qt rfl (by decide : (168:Nat) < 183) (Still.qt (s_load1 _ _ ldT_3_e rfl)) ?_
                  | refine AXl.qt rfl (by decide : (168:Nat) < 183) (Still.qt (s_load1_row _ _ ldT_3_e rfl rfl (by first | rfl | exact List.getElem?_eq_getElem (by omega)) rfl)) ?_
                refine AXl.qt rfl (by decide : (169:Nat) < 183) (Still.qt (s_icmp _ _ _ _ _ rfl rfl rfl)) ?_
                refine AXl.qt rfl (by decide : (170:Nat) < 183) (Still.qt (s_move _)) ?_
                refine AXl.nm_e0 ?_
                refine AXl.split 170 _ rfl (fun hg130 => ?_) (fun hg130 => ?_)
                · try simp only [decide_eq_true_eq, decide_eq_false_iff_not, Bool.not_eq_true', Bool.not_eq_false', Int.not_lt, Int.not_le, ne_eq, Decidable.not_not, bne_iff_ne, beq_iff_eq, Bool.and_eq_true, Bool.or_eq_true, Bool.and_eq_false_iff, Bool.or_eq_false_iff, Bool.not_not, Ax.u8eq] at hg130
                  simp only [del, ↓reduceIte, Nat.reduceEqDiff]
                  first
                    | refine AXl.qt_guard (by decide : (171:Nat) < 183) rfl (by kernel_rfl) (Still.qt (s_field_loc _ _ _ fdT_29_6_e rfl)) ?_
                    | refine AXl.qt_guard (by decide : (171:Nat) < 183) rfl (by kernel_rfl) (Still.qt (s_field_ptr _ _ _ fdT_29_6_e rfl)) ?_
                    | refine AXl.qt_guard (by decide : (171:Nat) < 183) rfl (by kernel_rfl) (Still.qt (s_field_row _ _ _ fdT_29_6_e rfl rfl)) ?_
                  first
                    | refine AXl.qt_guard (by decide : (172:Nat) < 183) rfl (by kernel_rfl) (Still.qt (s_load1 _ _ ldT_3_e rfl)) ?_
                    | refine AXl.qt_guard (by decide : (172:Nat) < 183) rfl (by kernel_rfl) (Still.qt (s_load1_row _ _ ldT_3_e rfl rfl (by first | rfl | exact List.getElem?_eq_getElem (by omega)) rfl)) ?_
                  refine AXl.qt_guard (by decide : (173:Nat) < 183) rfl (by kernel_rfl) (Still.qt (s_icmp _ _ _ _ _ rfl rfl rfl)) ?_
                  refine AXl.qt rfl (by decide : (174:Nat) < 183) (Still.qt (s_pick_t _ _ _ rfl)) ?_
                  refine AXl.nm_e0 ?_
                  refine AXl.nil ?_
                  refine hK129 _ ?_
                  clear hK129 K129
                  refine Ethen.n ?_
                  refine hK128 _ ?_
                  clear hK128 K128
                  refine AXc.cond rfl (fun hc131 => ?_) (fun hc131 => ?_)
                  · try simp only [decide_eq_true_eq, decide_eq_false_iff_not, Bool.not_eq_true', Bool.not_eq_false', Int.not_lt, Int.not_le, ne_eq, Decidable.not_not, bne_iff_ne, beq_iff_eq, Bool.and_eq_true, Bool.or_eq_true, Bool.and_eq_false_iff, Bool.or_eq_false_iff, Bool.not_not, Ax.u8eq] at hc131
                    refine AXc.region' fun K132 hK132 => ?_
                    refine AXl.qt rfl (by decide : (175:Nat) < 183) (Still.qt (s_move _)) ?_
                    refine AXl.qt rfl (by decide : (176:Nat) < 183) (Still.qt (s_move _)) ?_
                    first
                      | refine AXl.qt rfl (by decide : (177:Nat) < 183) (Still.qt (s_field_loc _ _ _ fdT_45_0_e rfl)) ?_
                      | refine AXl.qt rfl (by decide : (177:Nat) < 183) (Still.qt (s_field_ptr _ _ _ fdT_45_0_e rfl)) ?_
                      | refine AXl.qt rfl (by decide : (177:Nat) < 183) (Still.qt (s_field_row _ _ _ fdT_45_0_e rfl rfl)) ?_
                    first
                      | refine AXl.qt rfl (by decide : (178:Nat) < 183) (Still.qt (s_load1 _ _ ldT_9_e rfl)) ?_
                      | refine AXl.qt rfl (by decide : (178:Nat) < 183) (Still.qt (s_load1_row _ _ ldT_9_e rfl rfl (by first | rfl | exact List.getElem?_eq_getElem (by omega)) rfl)) ?_
                    refine AXl.nm_e0 ?_
                    refine AXl.qt rfl (by decide : (179:Nat) < 183) (q_call (c27 7 _ _ 0) (.cons (by first | exact ArgOk.d | exact ArgOk.bor rfl | exact ArgOk.agg rfl | exact ArgOk.agg (toDs_map _) | exact ArgOk.nil_bor | exact ArgOk.nil_lst | exact ArgOk.fn | exact ArgOk.ptr rfl rfl | exact ArgOk.aggn rfl (by repeat first | exact .nil | refine .cons (.refl _) ?_ | refine .cons (.nil _) ?_)) (.cons (by first | exact ArgOk.d | exact ArgOk.bor rfl | exact ArgOk.agg rfl | exact ArgOk.agg (toDs_map _) | exact ArgOk.nil_bor | exact ArgOk.nil_lst | exact ArgOk.fn | exact ArgOk.ptr rfl rfl | exact ArgOk.aggn rfl (by repeat first | exact .nil | refine .cons (.refl _) ?_ | refine .cons (.nil _) ?_)) (.cons (by first | exact ArgOk.d | exact ArgOk.bor rfl | exact ArgOk.agg rfl | exact ArgOk.agg (toDs_map _) | exact ArgOk.nil_bor | exact ArgOk.nil_lst | exact ArgOk.fn | exact ArgOk.ptr rfl rfl | exact ArgOk.aggn rfl (by repeat first | exact .nil | refine .cons (.refl _) ?_ | refine .cons (.nil _) ?_)) (.cons (by first | exact ArgOk.d | exact ArgOk.bor rfl | exact ArgOk.agg rfl | exact ArgOk.agg (toDs_map _) | exact ArgOk.nil_bor | exact ArgOk.nil_lst | exact ArgOk.fn | exact ArgOk.ptr rfl rfl | exact ArgOk.aggn rfl (by repeat first | exact .nil | refine .cons (.refl _) ?_ | refine .cons (.nil _) ?_)) .nil))))) ?_
                    refine AXl.qt rfl (by decide : (180:Nat) < 183) (q_buildSlice _ _ _ apT_35_e rfl rfl (by decide)) ?_
                    first
                      | refine AXl.append apT_35_e rfl rfl rfl (by simp only [List.length_append, List.length_map, List.length_cons, List.length_nil]; omega) (by simp only [List.length_append, List.length_map, List.length_cons, List.length_nil]; omega) (by decide : (181:Nat) < 183) ?_
                      | refine AXl.append_nil apT_35_e rfl (by decide) rfl (by simp only [List.length_append, List.length_map, List.length_cons, List.length_nil]; omega) (by simp only [List.length_append, List.length_map, List.length_cons, List.length_nil]; omega) (by decide : (181:Nat) < 183) ?_
                    refine AXl.qt rfl (by decide : (5:Nat) < 183) (Still.qt (s_assign _)) ?_
                    refine AXl.nm_e0 ?_
                    refine AXl.nil ?_
                    refine hK132 _ ?_
                    clear hK132 K132
                    refine EinBlock.n ?_
                    refine Ethen.n ?_
                    refine hK28 _ ?_
                    clear hK28 K28
                    refine AXc.region' fun K133 hK133 => ?_
                    refine AXl.qt rfl (by decide : (53:Nat) < 183) (Still.qt (s_move _)) ?_
                    refine AXl.qt rfl (by decide : (54:Nat) < 183) (Still.qt (s_iar _ _ _ _ _ rfl rfl rfl (IntWalk.i64_in _ ⟨(by first | omega | (simp only [List.length_map, List.length_cons, List.length_nil, List.length_append, List.length_take, List.length_drop]; omega)), (by first | omega | (simp only [List.length_map, List.length_cons, List.length_nil, List.length_append, List.length_take, List.length_drop]; omega))⟩))) ?_
                    refine AXl.qt rfl (by decide : (7:Nat) < 183) (Still.qt (s_assign _)) ?_
                    refine AXl.nm_e0 ?_
                    refine AXl.nil ?_
                    refine hK133 _ ?_
                    clear hK133 K133
                    refine Ethen.n ?_
                    clear hK21 K21
                    first
                      | (refine ⟨(k + 1, ver + 1, out ++ [⟨2, k, r.fields[k].tag, 0⟩]), ?_⟩
                         refine ⟨⟨?_, ?_⟩, ?_, ?_⟩
                         · omega
                         · rw [flds_next l r.fields hk] at hinv; unfold oneP at hinv
                           simp only [hc11, hc27, hc36, hg43, hc44, hc97, hc120, hg130, hc131, Bool.true_and, Bool.and_true, Bool.not_true, Bool.not_false, Bool.false_and, Bool.and_false, Bool.and_self, if_true, if_false, ↓reduceIte, Bool.false_eq_true, List.nil_append, List.append_assoc] at hinv ⊢
                           exact hinv
                         · first | omega | (dsimp only; omega)
                         · refine ⟨?_, ?_, ?_, ?_, ?_, ?_⟩ <;> (simp [subE, lk, AV.low, C.low, LB.low, Problem.ds, TagRule.ds, Fld.ds, Sub.ds, Rec.ds] <;> fail))
                      | (refine ⟨(k + 1, ver4 + 1, out4 ++ [⟨7, k, r.fields[k].tag, 0⟩]), ?_⟩
                         refine ⟨⟨?_, ?_⟩, ?_, ?_⟩
                         · omega
                         · rw [drop_end (by omega), needP, List.nil_append, authP] at hinv4
                           have hcd : (r.fields[k].auth ≠ 0 ∧ (getR l r.fields[k].tag).auth = 0) = True := by simp only [hc11, hc27, hc36, hg43, hc44, hc97, hc120, hg130, hc131, ne_eq, not_false_eq_true, and_self, and_true, true_and]
                           simp only [hcd, if_true] at hinv4
                           rw [List.append_assoc]; exact hinv4
                         · first | omega | (dsimp only; omega)
                         · refine ⟨?_, ?_, ?_, ?_, ?_, ?_⟩ <;> (simp [subE, lk, AV.low, C.low, LB.low, Problem.ds, TagRule.ds, Fld.ds, Sub.ds, Rec.ds] <;> fail))
                      | (refine ⟨(k + 1, ver4, out4), ?_⟩
                         refine ⟨⟨?_, ?_⟩, ?_, ?_⟩
                         · omega
                         · rw [drop_end (by omega), needP, List.nil_append, authP] at hinv4
                           have hcd : (r.fields[k].auth ≠ 0 ∧ (getR l r.fields[k].tag).auth = 0) = False := by simp only [hc11, hc27, hc36, hg43, hc44, hc97, hc120, hg130, hc131, ne_eq, not_false_eq_true, not_true_eq_false, and_false, false_and, and_self]
                           simp only [hcd, if_false, List.nil_append] at hinv4
                           exact hinv4
                         · first | omega | (dsimp only; omega)
                         · refine ⟨?_, ?_, ?_, ?_, ?_, ?_⟩ <;> (simp [subE, lk, AV.low, C.low, LB.low, Problem.ds, TagRule.ds, Fld.ds, Sub.ds, Rec.ds] <;> fail))
                  · try simp only [decide_eq_true_eq, decide_eq_false_iff_not, Bool.not_eq_true', Bool.not_eq_false', Int.not_lt, Int.not_le, ne_eq, Decidable.not_not, bne_iff_ne, beq_iff_eq, Bool.and_eq_true, Bool.or_eq_true, Bool.and_eq_false_iff, Bool.or_eq_false_iff, Bool.not_not, Ax.u8eq] at hc131
                    refine AXc.skip ?_
                    refine EinBlock.n ?_
                    refine Ethen.n ?_
                    refine hK28 _ ?_
                    clear hK28 K28
                    refine AXc.region' fun K134 hK134 => ?_
                    refine AXl.qt rfl (by decide : (53:Nat) < 183) (Still.qt (s_move _)) ?_
                    refine AXl.qt rfl (by decide : (54:Nat) < 183) (Still.qt (s_iar _ _ _ _ _ rfl rfl rfl (IntWalk.i64_in _ ⟨(by first | omega | (simp only [List.length_map, List.length_cons, List.length_nil, List.length_append, List.length_take, List.length_drop]; omega)), (by first | omega | (simp only [List.length_map, List.length_cons, List.length_nil, List.length_append, List.length_take, List.length_drop]; omega))⟩))) ?_
                    refine AXl.qt rfl (by decide : (7:Nat) < 183) (Still.qt (s_assign _)) ?_
                    refine AXl.nm_e0 ?_
                    refine AXl.nil ?_
                    refine hK134 _ ?_
                    clear hK134 K134
                    refine Ethen.n ?_
                    clear hK21 K21
                    first
                      | (refine ⟨(k + 1, ver + 1, out ++ [⟨2, k, r.fields[k].tag, 0⟩]), ?_⟩
                         refine ⟨⟨?_, ?_⟩, ?_, ?_⟩
                         · omega
                         · rw [flds_next l r.fields hk] at hinv; unfold oneP at hinv
                           simp only [hc11, hc27, hc36, hg43, hc44, hc97, hc120, hg130, hc131, Bool.true_and, Bool.and_true, Bool.not_true, Bool.not_false, Bool.false_and, Bool.and_false, Bool.and_self, if_true, if_false, ↓reduceIte, Bool.false_eq_true, List.nil_append, List.append_assoc] at hinv ⊢
                           exact hinv
                         · first | omega | (dsimp only; omega)
                         · refine ⟨?_, ?_, ?_, ?_, ?_, ?_⟩ <;> (simp [subE, lk, AV.low, C.low, LB.low, Problem.ds, TagRule.ds, Fld.ds, Sub.ds, Rec.ds] <;> fail))
                      | (refine ⟨(k + 1, ver4 + 1, out4 ++ [⟨7, k, r.fields[k].tag, 0⟩]), ?_⟩
                         refine ⟨⟨?_, ?_⟩, ?_, ?_⟩
                         · omega
                         · rw [drop_end (by omega), needP, List.nil_append, authP] at hinv4
                           have hcd : (r.fields[k].auth ≠ 0 ∧ (getR l r.fields[k].tag).auth = 0) = True := by simp only [hc11, hc27, hc36, hg43, hc44, hc97, hc120, hg130, hc131, ne_eq, not_false_eq_true, and_self, and_true, true_and]
                           simp only [hcd, if_true] at hinv4
                           rw [List.append_assoc]; exact hinv4
                         · first | omega | (dsimp only; omega)
                         · refine ⟨?_, ?_, ?_, ?_, ?_, ?_⟩ <;> (simp [subE, lk, AV.low, C.low, LB.low, Problem.ds, TagRule.ds, Fld.ds, Sub.ds, Rec.ds] <;> fail))
                      | (refine ⟨(k + 1, ver4, out4), ?_⟩
                         refine ⟨⟨?_, ?_⟩, ?_, ?_⟩
                         · omega
                         · rw [drop_end (by omega), needP, List.nil_append, authP] at hinv4
                           have hcd : (r.fields[k].auth ≠ 0 ∧ (getR l r.fields[k].tag).auth = 0) = False := by simp only [hc11, hc27, hc36, hg43, hc44, hc97, hc120, hg130, hc131, ne_eq, not_false_eq_true, not_true_eq_false, and_false, false_and, and_self]
                           simp only [hcd, if_false, List.nil_append] at hinv4
                           exact hinv4
                         · first | omega | (dsimp only; omega)
                         · refine ⟨?_, ?_, ?_, ?_, ?_, ?_⟩ <;> (simp [subE, lk, AV.low, C.low, LB.low, Problem.ds, TagRule.ds, Fld.ds, Sub.ds, Rec.ds] <;> fail))
                · try simp only [decide_eq_true_eq, decide_eq_false_iff_not, Bool.not_eq_true', Bool.not_eq_false', Int.not_lt, Int.not_le, ne_eq, Decidable.not_not, bne_iff_ne, beq_iff_eq, Bool.and_eq_true, Bool.or_eq_true, Bool.and_eq_false_iff, Bool.or_eq_false_iff, Bool.not_not, Ax.u8eq] at hg130
                  simp only [del, ↓reduceIte, Nat.reduceEqDiff]
                  refine AXl.skip_guard (by decide : (171:Nat) < 183) rfl (by kernel_rfl) ?_
                  refine AXl.skip_guard (by decide : (172:Nat) < 183) rfl (by kernel_rfl) ?_
                  refine AXl.skip_guard (by decide : (173:Nat) < 183) rfl (by kernel_rfl) ?_
                  refine AXl.qt rfl (by decide : (174:Nat) < 183) (Still.qt (s_pick_f _ _ _ rfl)) ?_
                  refine AXl.nm_e0 ?_
                  refine AXl.nil ?_
                  refine hK129 _ ?_
                  clear hK129 K129
                  refine Ethen.n ?_
                  refine hK128 _ ?_
                  clear hK128 K128
                  refine AXc.cond_f rfl ?_
                  refine AXc.skip ?_
                  refine EinBlock.n ?_
                  refine Ethen.n ?_
                  refine hK28 _ ?_
                  clear hK28 K28
                  refine AXc.region' fun K135 hK135 => ?_
                  refine AXl.qt rfl (by decide : (53:Nat) < 183) (Still.qt (s_move _)) ?_
                  refine AXl.qt rfl (by decide : (54:Nat) < 183) (Still.qt (s_iar _ _ _ _ _ rfl rfl rfl (IntWalk.i64_in _ ⟨(by first | omega | (simp only [List.length_map, List.length_cons, List.length_nil, List.length_append, List.length_take, List.length_drop]; omega)), (by first | omega | (simp only [List.length_map, List.length_cons, List.length_nil, List.length_append, List.length_take, List.length_drop]; omega))⟩))) ?_
                  refine AXl.qt rfl (by decide : (7:Nat) < 183) (Still.qt (s_assign _)) ?_
                  refine AXl.nm_e0 ?_
                  refine AXl.nil ?_
                  refine hK135 _ ?_
                  clear hK135 K135
                  refine Ethen.n ?_
                  clear hK21 K21
                  first
                    | (refine ⟨(k + 1, ver + 1, out ++ [⟨2, k, r.fields[k].tag, 0⟩]), ?_⟩
                       refine ⟨⟨?_, ?_⟩, ?_, ?_⟩
                       · omega
                       · rw [flds_next l r.fields hk] at hinv; unfold oneP at hinv
                         simp only [hc11, hc27, hc36, hg43, hc44, hc97, hc120, hg130, Bool.true_and, Bool.and_true, Bool.not_true, Bool.not_false, Bool.false_and, Bool.and_false, Bool.and_self, if_true, if_false, ↓reduceIte, Bool.false_eq_true, List.nil_append, List.append_assoc] at hinv ⊢
                         exact hinv
                       · first | omega | (dsimp only; omega)
                       · refine ⟨?_, ?_, ?_, ?_, ?_, ?_⟩ <;> (simp [subE, lk, AV.low, C.low, LB.low, Problem.ds, TagRule.ds, Fld.ds, Sub.ds, Rec.ds] <;> fail))
                    | (refine ⟨(k + 1, ver4 + 1, out4 ++ [⟨7, k, r.fields[k].tag, 0⟩]), ?_⟩
                       refine ⟨⟨?_, ?_⟩, ?_, ?_⟩
                       · omega
                       · rw [drop_end (by omega), needP, List.nil_append, authP] at hinv4
                         have hcd : (r.fields[k].auth ≠ 0 ∧ (getR l r.fields[k].tag).auth = 0) = True := by simp only [hc11, hc27, hc36, hg43, hc44, hc97, hc120, hg130, ne_eq, not_false_eq_true, and_self, and_true, true_and]
                         simp only [hcd, if_true] at hinv4
                         rw [List.append_assoc]; exact hinv4
                       · first | omega | (dsimp only; omega)
                       · refine ⟨?_, ?_, ?_, ?_, ?_, ?_⟩ <;> (simp [subE, lk, AV.low, C.low, LB.low, Problem.ds, TagRule.ds, Fld.ds, Sub.ds, Rec.ds] <;> fail))
                    | (refine ⟨(k + 1, ver4, out4), ?_⟩
                       refine ⟨⟨?_, ?_⟩, ?_, ?_⟩
                       · omega
                       · rw [drop_end (by omega), needP, List.nil_append, authP] at hinv4
                         have hcd : (r.fields[k].auth ≠ 0 ∧ (getR l r.fields[k].tag).auth = 0) = False := by simp only [hc11, hc27, hc36, hg43, hc44, hc97, hc120, hg130, ne_eq, not_false_eq_true, not_true_eq_false, and_false, false_and, and_self]
                         simp only [hcd, if_false, List.nil_append] at hinv4
                         exact hinv4
                       · first | omega | (dsimp only; omega)
                       · refine ⟨?_, ?_, ?_, ?_, ?_, ?_⟩ <;> (simp [subE, lk, AV.low, C.low, LB.low, Problem.ds, TagRule.ds, Fld.ds, Sub.ds, Rec.ds] <;> fail))
        · try simp only [decide_eq_true_eq, decide_eq_false_iff_not, Bool.not_eq_true', Bool.not_eq_false', Int.not_lt, Int.not_le, ne_eq, Decidable.not_not, bne_iff_ne, beq_iff_eq, Bool.and_eq_true, Bool.or_eq_true, Bool.and_eq_false_iff, Bool.or_eq_false_iff, Bool.not_not, Ax.u8eq] at hg43
          simp only [del, ↓reduceIte, Nat.reduceEqDiff]
          refine AXl.skip_guard (by decide : (80:Nat) < 183) rfl (by kernel_rfl) ?_
          refine AXl.skip_guard (by decide : (81:Nat) < 183) rfl (by kernel_rfl) ?_
          refine AXl.skip_guard (by decide : (82:Nat) < 183) rfl (by kernel_rfl) ?_
          refine AXl.skip_guard (by decide : (83:Nat) < 183) rfl (by kernel_rfl) ?_
          refine AXl.skip_guard (by decide : (84:Nat) < 183) rfl (by kernel_rfl) ?_
          refine AXl.skip_guard (by decide : (85:Nat) < 183) rfl (by kernel_rfl) ?_
          refine AXl.qt rfl (by decide : (86:Nat) < 183) (Still.qt (s_pick_f _ _ _ rfl)) ?_
          refine AXl.nm_e0 ?_
          refine AXl.nil ?_
          refine hK42 _ ?_
          clear hK42 K42
          refine Ethen.n ?_
          refine hK41 _ ?_
          clear hK41 K41
          refine AXc.cond_f rfl ?_
          refine AXc.skip ?_
          refine Ethen.n ?_
          refine hK40 _ ?_
          clear hK40 K40
          refine AXc.seq fun K136 hK136 => ?_
          refine AXc.seq fun K137 hK137 => ?_
          refine AXc.region' fun K138 hK138 => ?_
          refine AXl.qt rfl (by decide : (11:Nat) < 183) (Still.qt (s_assign _)) ?_
          refine AXl.nm_e0 ?_
          refine AXl.nil ?_
          refine hK138 _ ?_
          clear hK138 K138
          refine Ethen.n ?_
          refine hK137 _ ?_
          clear hK137 K137
          refine AXc.block ?_
          rw [flds_next l r.fields hk] at hinv; unfold oneP repP fieldP at hinv
          simp only [hc11, hc27, hc36, hg43, Bool.true_and, Bool.and_true, Bool.not_true, Bool.not_false, Bool.false_and, Bool.and_false, Bool.and_self, if_true, if_false, ↓reduceIte, Bool.false_eq_true, List.nil_append, List.append_assoc] at hinv
          first
            | refine AXc.loop (S := Nat × Nat × List Problem) (fun ⟨j, ver3, out3⟩ => ⟨[(0, .c (.d (.lst 7 (l.map TagRule.ds)))), (3, .c (.loc 0 0)), (5, .c (.own 1 ver3)), (7, .c (.d (.int .i64 k))), (8, .c (.loc 2 0)), (9, .c (.loc 3 0)), (11, .c (.d (.int .i64 j)))], [.box 27 (r.ds.map C.d), .row 41 4 (out3.map Problem.ds) ver3, .box 45 (Fld.ds r.fields[k] |>.map C.d), .box 29 (TagRule.ds (getR l r.fields[k].tag) |>.map C.d)]⟩) (fun ⟨j, ver3, out3⟩ => j ≤ r.fields[k].subs.length ∧ out3 ++ (subP (getR l r.fields[k].tag) r.fields[k].tag k (r.fields[k].subs.take j) (r.fields[k].subs.drop j) ++ (needP r.fields[k].tag k r.fields[k].subs (getR l r.fields[k].tag).needs ++ (authP (getR l r.fields[k].tag) r.fields[k] k ++ fldsP l (r.fields.take (k + 1)) (r.fields.drop (k + 1))))) = mustP r.fields l ++ fldsP l [] r.fields) (fun ⟨j, ver3, out3⟩ => r.fields[k].subs.length - j) (0, ver, out) ⟨by omega, by simpa only [List.take_zero, List.drop_zero, List.append_assoc] using hinv⟩ (by refine ⟨?_, ?_, ?_, ?_, ?_, ?_⟩ <;> (simp [subE, lk, AV.low, C.low, LB.low, Problem.ds, TagRule.ds, Fld.ds, Sub.ds, Rec.ds] <;> fail)) ?_
            | refine AXc.loop (S := Nat × Nat × List Problem) (fun ⟨j, ver3, out3⟩ => ⟨[(0, .c (.d (.lst 7 (l.map TagRule.ds)))), (3, .c (.loc 0 0)), (5, .c (.own 1 ver3)), (7, .c (.d (.int .i64 k))), (8, .c (.loc 2 0)), (9, .c (.loc 3 0)), (11, .c (.d (.int .i64 j)))], [.box 27 (r.ds.map C.d), .row 41 4 (out3.map Problem.ds) ver3, .box 45 (Fld.ds r.fields[k] |>.map C.d), .box 29 (TagRule.ds (getR l r.fields[k].tag) |>.map C.d)]⟩) (fun ⟨j, ver3, out3⟩ => j ≤ r.fields[k].subs.length ∧ out3 ++ (subP (getR l r.fields[k].tag) r.fields[k].tag k (r.fields[k].subs.take j) (r.fields[k].subs.drop j) ++ (needP r.fields[k].tag k r.fields[k].subs (getR l r.fields[k].tag).needs ++ (authP (getR l r.fields[k].tag) r.fields[k] k ++ fldsP l (r.fields.take (k + 1)) (r.fields.drop (k + 1))))) = mustP r.fields l ++ fldsP l [] r.fields) (fun ⟨j, ver3, out3⟩ => r.fields[k].subs.length - j) (0, ver + 1, out ++ [⟨3, k, r.fields[k].tag, 0⟩]) ⟨by omega, by simpa only [List.take_zero, List.drop_zero, List.append_assoc] using hinv⟩ (by refine ⟨?_, ?_, ?_, ?_, ?_, ?_⟩ <;> (simp [subE, lk, AV.low, C.low, LB.low, Problem.ds, TagRule.ds, Fld.ds, Sub.ds, Rec.ds] <;> fail)) ?_
          rintro ⟨j, ver3, out3⟩ ⟨hj0, hinv3⟩
          have hb3 := congrArg List.length hinv3; simp only [List.length_append] at hb3
          try simp only [Problem.ds, TagRule.ds, Fld.ds, Sub.ds, Rec.ds, indexByte_any, indexByte_any', ← List.map_take, Nat.sub_zero, tagd_pos, tagd_zero, cnt_pos, cnt_zero, List.take_length, List.map_cons, List.map_nil]
          refine AXc.seq fun K139 hK139 => ?_
          refine AXc.seq fun K140 hK140 => ?_
          refine AXc.region' fun K141 hK141 => ?_
          refine AXl.qt rfl (by decide : (94:Nat) < 183) (Still.qt (s_move _)) ?_
          first
            | refine AXl.qt rfl (by decide : (95:Nat) < 183) (Still.qt (s_field_loc _ _ _ fdT_45_2_e rfl)) ?_
            | refine AXl.qt rfl (by decide : (95:Nat) < 183) (Still.qt (s_field_ptr _ _ _ fdT_45_2_e rfl)) ?_
            | refine AXl.qt rfl (by decide : (95:Nat) < 183) (Still.qt (s_field_row _ _ _ fdT_45_2_e rfl rfl)) ?_
          first
            | refine AXl.qt rfl (by decide : (96:Nat) < 183) (Still.qt (s_load1 _ _ ldT_43_e rfl)) ?_
            | refine AXl.qt rfl (by decide : (96:Nat) < 183) (Still.qt (s_load1_row _ _ ldT_43_e rfl rfl (by first | rfl | exact List.getElem?_eq_getElem (by omega)) rfl)) ?_
          first
            | refine AXl.qt rfl (by decide : (97:Nat) < 183) (Still.qt (s_len _ _ Tryd.underlying43 rfl)) ?_
            | refine AXl.qt rfl (by decide : (97:Nat) < 183) (Still.qt (s_len_nil _ _ Tryd.underlying43 rfl)) ?_
          refine AXl.qt rfl (by decide : (98:Nat) < 183) (Still.qt (s_icmp _ _ _ _ _ rfl rfl rfl)) ?_
          refine AXl.nm_e0 ?_
          refine AXl.nil ?_
          refine hK141 _ ?_
          clear hK141 K141
          refine Ethen.n ?_
          refine hK140 _ ?_
          clear hK140 K140
          refine AXc.cond rfl (fun hc142 => ?_) (fun hc142 => ?_)
          · try simp only [decide_eq_true_eq, decide_eq_false_iff_not, Bool.not_eq_true', Bool.not_eq_false', Int.not_lt, Int.not_le, ne_eq, Decidable.not_not, bne_iff_ne, beq_iff_eq, Bool.and_eq_true, Bool.or_eq_true, Bool.and_eq_false_iff, Bool.or_eq_false_iff, Bool.not_not, Ax.u8eq] at hc142
            have hj : j < r.fields[k].subs.length := by omega
            refine AXc.skip ?_
            refine Ethen.n ?_
            refine hK139 _ ?_
            clear hK139 K139
            refine AXc.seq fun K143 hK143 => ?_
            refine AXc.block ?_
            refine AXc.seq fun K144 hK144 => ?_
            refine AXc.region' fun K145 hK145 => ?_
            first
              | refine AXl.qt rfl (by decide : (101:Nat) < 183) (Still.qt (s_field_loc _ _ _ fdT_45_2_e rfl)) ?_
              | refine AXl.qt rfl (by decide : (101:Nat) < 183) (Still.qt (s_field_ptr _ _ _ fdT_45_2_e rfl)) ?_
              | refine AXl.qt rfl (by decide : (101:Nat) < 183) (Still.qt (s_field_row _ _ _ fdT_45_2_e rfl rfl)) ?_
            first
              | refine AXl.qt rfl (by decide : (102:Nat) < 183) (Still.qt (s_load1 _ _ ldT_43_e rfl)) ?_
              | refine AXl.qt rfl (by decide : (102:Nat) < 183) (Still.qt (s_load1_row _ _ ldT_43_e rfl rfl (by first | rfl | exact List.getElem?_eq_getElem (by omega)) rfl)) ?_
            refine AXl.qt rfl (by decide : (103:Nat) < 183) (Still.qt (s_move _)) ?_
            first
              | refine AXl.qt rfl (by decide : (104:Nat) < 183) (Still.qt (s_index _ _ _ slT_43_e (.inl rfl) rfl rfl (by first | omega | (simp only [List.length_map, List.length_cons, List.length_nil, List.length_append, List.length_take, List.length_drop]; omega)) (List.getElem?_eq_getElem (by first | omega | (simp only [List.length_map, List.length_cons, List.length_nil, List.length_append, List.length_take, List.length_drop]; omega))))) ?_
              | refine AXl.qt rfl (by decide : (104:Nat) < 183) (Still.qt (s_index _ _ _ slT_43_e (.inr rfl) rfl rfl (by first | omega | (simp only [List.length_map, List.length_cons, List.length_nil, List.length_append, List.length_take, List.length_drop]; omega)) (List.getElem?_eq_getElem (by first | omega | (simp only [List.length_map, List.length_cons, List.length_nil, List.length_append, List.length_take, List.length_drop]; omega))))) ?_
              | refine AXl.qt rfl (by decide : (104:Nat) < 183) (Still.qt (s_index_own _ _ _ slT_43_e rfl rfl rfl rfl (by first | omega | (simp only [List.length_map, List.length_cons, List.length_nil, List.length_append, List.length_take, List.length_drop]; omega)) (by first | omega | (simp only [List.length_map, List.length_cons, List.length_nil, List.length_append, List.length_take, List.length_drop]; omega)))) ?_
            refine AXl.nm_e0 ?_
            first
              | refine AXl.qt rfl (by decide : (105:Nat) < 183) (Still.qt (s_field_loc _ _ _ fdT_55_0_e rfl)) ?_
              | refine AXl.qt rfl (by decide : (105:Nat) < 183) (Still.qt (s_field_ptr _ _ _ fdT_55_0_e rfl)) ?_
              | refine AXl.qt rfl (by decide : (105:Nat) < 183) (Still.qt (s_field_row _ _ _ fdT_55_0_e rfl rfl)) ?_
            first
              | refine AXl.qt rfl (by decide : (106:Nat) < 183) (Still.qt (s_load1 _ _ ldT_5_e rfl)) ?_
              | refine AXl.qt rfl (by decide : (106:Nat) < 183) (Still.qt (s_load1_row _ _ ldT_5_e rfl rfl (by first | rfl | exact List.getElem?_eq_getElem (by omega)) rfl)) ?_
            refine AXl.qt rfl (by decide : (12:Nat) < 183) (Still.qt (s_assign _)) ?_
            refine AXl.nm_e0 ?_
            refine AXl.nil ?_
            refine hK145 _ ?_
            clear hK145 K145
            refine Ethen.n ?_
            refine hK144 _ ?_
            clear hK144 K144
            refine AXc.seq fun K146 hK146 => ?_
            refine AXc.region' fun K147 hK147 => ?_
            first
              | refine AXl.qt rfl (by decide : (107:Nat) < 183) (Still.qt (s_field_loc _ _ _ fdT_29_3_e rfl)) ?_
              | refine AXl.qt rfl (by decide : (107:Nat) < 183) (Still.qt (s_field_ptr _ _ _ fdT_29_3_e rfl)) ?_
              | refine AXl.qt rfl (by decide : (107:Nat) < 183) (Still.qt (s_field_row _ _ _ fdT_29_3_e rfl rfl)) ?_
            first
              | refine AXl.qt rfl (by decide : (108:Nat) < 183) (Still.qt (s_load1 _ _ ldT_9_e rfl)) ?_
              | refine AXl.qt rfl (by decide : (108:Nat) < 183) (Still.qt (s_load1_row _ _ ldT_9_e rfl rfl (by first | rfl | exact List.getElem?_eq_getElem (by omega)) rfl)) ?_
            refine AXl.qt rfl (by decide : (109:Nat) < 183) (Still.qt (s_move _)) ?_
            refine AXl.nm_e0 ?_
            refine AXl.qt rfl (by decide : (110:Nat) < 183) (q_call (c28 _ _ ?hs) (.cons (by first | exact ArgOk.d | exact ArgOk.bor rfl | exact ArgOk.agg rfl | exact ArgOk.agg (toDs_map _) | exact ArgOk.nil_bor | exact ArgOk.nil_lst | exact ArgOk.fn | exact ArgOk.ptr rfl rfl | exact ArgOk.aggn rfl (by repeat first | exact .nil | refine .cons (.refl _) ?_ | refine .cons (.nil _) ?_)) (.cons (by first | exact ArgOk.d | exact ArgOk.bor rfl | exact ArgOk.agg rfl | exact ArgOk.agg (toDs_map _) | exact ArgOk.nil_bor | exact ArgOk.nil_lst | exact ArgOk.fn | exact ArgOk.ptr rfl rfl | exact ArgOk.aggn rfl (by repeat first | exact .nil | refine .cons (.refl _) ?_ | refine .cons (.nil _) ?_)) .nil))) ?_
            case hs => first | exact Nat.le_trans hokr.codes (by decide) | exact Nat.le_trans hokr.once (by decide)
            refine AXl.qt rfl (by decide : (111:Nat) < 183) (Still.qt (s_not _ _ rfl)) ?_
            refine AXl.nm_e0 ?_
            refine AXl.nil ?_
            refine hK147 _ ?_
            clear hK147 K147
            refine Ethen.n ?_
            refine hK146 _ ?_
            clear hK146 K146
            refine AXc.cond rfl (fun hc148 => ?_) (fun hc148 => ?_)
            · try simp only [decide_eq_true_eq, decide_eq_false_iff_not, Bool.not_eq_true', Bool.not_eq_false', Int.not_lt, Int.not_le, ne_eq, Decidable.not_not, bne_iff_ne, beq_iff_eq, Bool.and_eq_true, Bool.or_eq_true, Bool.and_eq_false_iff, Bool.or_eq_false_iff, Bool.not_not, Ax.u8eq] at hc148
              refine AXc.region' fun K149 hK149 => ?_
              refine AXl.qt rfl (by decide : (112:Nat) < 183) (Still.qt (s_move _)) ?_
              refine AXl.qt rfl (by decide : (113:Nat) < 183) (Still.qt (s_move _)) ?_
              first
                | refine AXl.qt rfl (by decide : (114:Nat) < 183) (Still.qt (s_field_loc _ _ _ fdT_45_0_e rfl)) ?_
                | refine AXl.qt rfl (by decide : (114:Nat) < 183) (Still.qt (s_field_ptr _ _ _ fdT_45_0_e rfl)) ?_
                | refine AXl.qt rfl (by decide : (114:Nat) < 183) (Still.qt (s_field_row _ _ _ fdT_45_0_e rfl rfl)) ?_
              first
                | refine AXl.qt rfl (by decide : (115:Nat) < 183) (Still.qt (s_load1 _ _ ldT_9_e rfl)) ?_
                | refine AXl.qt rfl (by decide : (115:Nat) < 183) (Still.qt (s_load1_row _ _ ldT_9_e rfl rfl (by first | rfl | exact List.getElem?_eq_getElem (by omega)) rfl)) ?_
              refine AXl.qt rfl (by decide : (116:Nat) < 183) (Still.qt (s_move _)) ?_
              refine AXl.nm_e0 ?_
              refine AXl.qt rfl (by decide : (117:Nat) < 183) (q_call (c27 _ _ _ _) (.cons (by first | exact ArgOk.d | exact ArgOk.bor rfl | exact ArgOk.agg rfl | exact ArgOk.agg (toDs_map _) | exact ArgOk.nil_bor | exact ArgOk.nil_lst | exact ArgOk.fn | exact ArgOk.ptr rfl rfl | exact ArgOk.aggn rfl (by repeat first | exact .nil | refine .cons (.refl _) ?_ | refine .cons (.nil _) ?_)) (.cons (by first | exact ArgOk.d | exact ArgOk.bor rfl | exact ArgOk.agg rfl | exact ArgOk.agg (toDs_map _) | exact ArgOk.nil_bor | exact ArgOk.nil_lst | exact ArgOk.fn | exact ArgOk.ptr rfl rfl | exact ArgOk.aggn rfl (by repeat first | exact .nil | refine .cons (.refl _) ?_ | refine .cons (.nil _) ?_)) (.cons (by first | exact ArgOk.d | exact ArgOk.bor rfl | exact ArgOk.agg rfl | exact ArgOk.agg (toDs_map _) | exact ArgOk.nil_bor | exact ArgOk.nil_lst | exact ArgOk.fn | exact ArgOk.ptr rfl rfl | exact ArgOk.aggn rfl (by repeat first | exact .nil | refine .cons (.refl _) ?_ | refine .cons (.nil _) ?_)) (.cons (by first | exact ArgOk.d | exact ArgOk.bor rfl | exact ArgOk.agg rfl | exact ArgOk.agg (toDs_map _) | exact ArgOk.nil_bor | exact ArgOk.nil_lst | exact ArgOk.fn | exact ArgOk.ptr rfl rfl | exact ArgOk.aggn rfl (by repeat first | exact .nil | refine .cons (.refl _) ?_ | refine .cons (.nil _) ?_)) .nil))))) ?_
              refine AXl.qt rfl (by decide : (118:Nat) < 183) (q_buildSlice _ _ _ apT_35_e rfl rfl (by decide)) ?_
              first
                | refine AXl.append apT_35_e rfl rfl rfl (by simp only [List.length_append, List.length_map, List.length_cons, List.length_nil]; omega) (by simp only [List.length_append, List.length_map, List.length_cons, List.length_nil]; omega) (by decide : (119:Nat) < 183) ?_
                | refine AXl.append_nil apT_35_e rfl (by decide) rfl (by simp only [List.length_append, List.length_map, List.length_cons, List.length_nil]; omega) (by simp only [List.length_append, List.length_map, List.length_cons, List.length_nil]; omega) (by decide : (119:Nat) < 183) ?_
              refine AXl.qt rfl (by decide : (5:Nat) < 183) (Still.qt (s_assign _)) ?_
              refine AXl.nm_e0 ?_
              refine AXl.nil ?_
              refine hK149 _ ?_
              clear hK149 K149
              refine EinBlock.n ?_
              refine Ethen.n ?_
              refine hK143 _ ?_
              clear hK143 K143
              refine AXc.region' fun K150 hK150 => ?_
              refine AXl.qt rfl (by decide : (99:Nat) < 183) (Still.qt (s_move _)) ?_
              refine AXl.qt rfl (by decide : (100:Nat) < 183) (Still.qt (s_iar _ _ _ _ _ rfl rfl rfl (IntWalk.i64_in _ ⟨(by first | omega | (simp only [List.length_map, List.length_cons, List.length_nil, List.length_append, List.length_take, List.length_drop]; omega)), (by first | omega | (simp only [List.length_map, List.length_cons, List.length_nil, List.length_append, List.length_take, List.length_drop]; omega))⟩))) ?_
              refine AXl.qt rfl (by decide : (11:Nat) < 183) (Still.qt (s_assign _)) ?_
              refine AXl.nm_e0 ?_
              refine AXl.nil ?_
              refine hK150 _ ?_
              clear hK150 K150
              refine Ethen.n ?_
              clear hK21 K21 hK28 K28 hK136 K136
              rw [sub_next (getR l r.fields[k].tag) _ _ r.fields[k].subs hj] at hinv3
              first
                | (refine ⟨(j + 1, ver3 + 1, out3 ++ [⟨4, k, r.fields[k].tag, r.fields[k].subs[j].code⟩]), ⟨by omega, ?_⟩, by first | omega | (dsimp only; omega), (by refine ⟨?_, ?_, ?_, ?_, ?_, ?_⟩ <;> (simp [subE, lk, AV.low, C.low, LB.low, Problem.ds, TagRule.ds, Fld.ds, Sub.ds, Rec.ds] <;> fail))⟩
                   simp only [hc11, hc27, hc36, hg43, hc142, hc148, Bool.true_and, Bool.and_true, Bool.not_true, Bool.not_false, Bool.false_and, Bool.and_false, Bool.and_self, if_true, if_false, ↓reduceIte, Bool.false_eq_true, List.nil_append, List.append_assoc] at hinv3 ⊢
                   exact hinv3)
                | (refine ⟨(j + 1, ver3 + 1, out3 ++ [⟨5, k, r.fields[k].tag, r.fields[k].subs[j].code⟩]), ⟨by omega, ?_⟩, by first | omega | (dsimp only; omega), (by refine ⟨?_, ?_, ?_, ?_, ?_, ?_⟩ <;> (simp [subE, lk, AV.low, C.low, LB.low, Problem.ds, TagRule.ds, Fld.ds, Sub.ds, Rec.ds] <;> fail))⟩
                   simp only [hc11, hc27, hc36, hg43, hc142, hc148, Bool.true_and, Bool.and_true, Bool.not_true, Bool.not_false, Bool.false_and, Bool.and_false, Bool.and_self, if_true, if_false, ↓reduceIte, Bool.false_eq_true, List.nil_append, List.append_assoc] at hinv3 ⊢
                   exact hinv3)
                | (refine ⟨(j + 1, ver3, out3), ⟨by omega, ?_⟩, by first | omega | (dsimp only; omega), (by refine ⟨?_, ?_, ?_, ?_, ?_, ?_⟩ <;> (simp [subE, lk, AV.low, C.low, LB.low, Problem.ds, TagRule.ds, Fld.ds, Sub.ds, Rec.ds] <;> fail))⟩
                   simp only [hc11, hc27, hc36, hg43, hc142, hc148, Bool.true_and, Bool.and_true, Bool.not_true, Bool.not_false, Bool.false_and, Bool.and_false, Bool.and_self, if_true, if_false, ↓reduceIte, Bool.false_eq_true, List.nil_append, List.append_assoc] at hinv3 ⊢
                   exact hinv3)
            · try simp only [decide_eq_true_eq, decide_eq_false_iff_not, Bool.not_eq_true', Bool.not_eq_false', Int.not_lt, Int.not_le, ne_eq, Decidable.not_not, bne_iff_ne, beq_iff_eq, Bool.and_eq_true, Bool.or_eq_true, Bool.and_eq_false_iff, Bool.or_eq_false_iff, Bool.not_not, Ax.u8eq] at hc148
              refine AXc.seq fun K151 hK151 => ?_
              refine AXc.region' fun K152 hK152 => ?_
              first
                | refine AXl.qt rfl (by decide : (120:Nat) < 183) (Still.qt (s_field_loc _ _ _ fdT_29_4_e rfl)) ?_
                | refine AXl.qt rfl (by decide : (120:Nat) < 183) (Still.qt (s_field_ptr _ _ _ fdT_29_4_e rfl)) ?_
                | refine AXl.qt rfl (by decide : (120:Nat) < 183) (Still.qt (s_field_row _ _ _ fdT_29_4_e rfl rfl)) ?_
              first
                | refine AXl.qt rfl (by decide : (121:Nat) < 183) (Still.qt (s_load1 _ _ ldT_9_e rfl)) ?_
                | refine AXl.qt rfl (by decide : (121:Nat) < 183) (Still.qt (s_load1_row _ _ ldT_9_e rfl rfl (by first | rfl | exact List.getElem?_eq_getElem (by omega)) rfl)) ?_
              refine AXl.qt rfl (by decide : (122:Nat) < 183) (Still.qt (s_move _)) ?_
              refine AXl.nm_e0 ?_
              refine AXl.qt rfl (by decide : (123:Nat) < 183) (q_call (c28 _ _ ?hs) (.cons (by first | exact ArgOk.d | exact ArgOk.bor rfl | exact ArgOk.agg rfl | exact ArgOk.agg (toDs_map _) | exact ArgOk.nil_bor | exact ArgOk.nil_lst | exact ArgOk.fn | exact ArgOk.ptr rfl rfl | exact ArgOk.aggn rfl (by repeat first | exact .nil | refine .cons (.refl _) ?_ | refine .cons (.nil _) ?_)) (.cons (by first | exact ArgOk.d | exact ArgOk.bor rfl | exact ArgOk.agg rfl | exact ArgOk.agg (toDs_map _) | exact ArgOk.nil_bor | exact ArgOk.nil_lst | exact ArgOk.fn | exact ArgOk.ptr rfl rfl | exact ArgOk.aggn rfl (by repeat first | exact .nil | refine .cons (.refl _) ?_ | refine .cons (.nil _) ?_)) .nil))) ?_
              case hs => first | exact Nat.le_trans hokr.codes (by decide) | exact Nat.le_trans hokr.once (by decide)
              refine AXl.qt rfl (by decide : (124:Nat) < 183) (Still.qt (s_move _)) ?_
              refine AXl.nm_e0 ?_
              refine AXl.split 124 _ rfl (fun hg153 => ?_) (fun hg153 => ?_)
              · try simp only [decide_eq_true_eq, decide_eq_false_iff_not, Bool.not_eq_true', Bool.not_eq_false', Int.not_lt, Int.not_le, ne_eq, Decidable.not_not, bne_iff_ne, beq_iff_eq, Bool.and_eq_true, Bool.or_eq_true, Bool.and_eq_false_iff, Bool.or_eq_false_iff, Bool.not_not, Ax.u8eq] at hg153
                simp only [del, ↓reduceIte, Nat.reduceEqDiff]
                first
                  | refine AXl.qt_guard (by decide : (125:Nat) < 183) rfl (by kernel_rfl) (Still.qt (s_loadN _ _ ldT_45_e rfl (by simp [Problem.ds, TagRule.ds, Fld.ds, Sub.ds, Rec.ds]))) ?_
                  | refine AXl.qt_guard (by decide : (125:Nat) < 183) rfl (by kernel_rfl) (Still.qt (s_loadN_row _ _ ldT_45_e rfl rfl (by first | rfl | exact List.getElem?_eq_getElem (by omega)) (by simp [Problem.ds, TagRule.ds, Fld.ds, Sub.ds, Rec.ds]))) ?_
                refine AXl.qt_guard (by decide : (126:Nat) < 183) rfl (by kernel_rfl) (Still.qt (s_move _)) ?_
                refine AXl.qt_guard (by decide : (127:Nat) < 183) rfl (by kernel_rfl) (Still.qt (s_move _)) ?_
                refine AXl.nm_e0 ?_
                refine AXl.qt_guard (by decide : (128:Nat) < 183) rfl (by kernel_rfl) (q_call (c29 r.fields[k] _ _ ?hs ?ht) (.cons (by first | exact ArgOk.d | exact ArgOk.bor rfl | exact ArgOk.agg rfl | exact ArgOk.agg (toDs_map _) | exact ArgOk.nil_bor | exact ArgOk.nil_lst | exact ArgOk.fn | exact ArgOk.ptr rfl rfl | exact ArgOk.aggn rfl (by repeat first | exact .nil | refine .cons (.refl _) ?_ | refine .cons (.nil _) ?_)) (.cons (by first | exact ArgOk.d | exact ArgOk.bor rfl | exact ArgOk.agg rfl | exact ArgOk.agg (toDs_map _) | exact ArgOk.nil_bor | exact ArgOk.nil_lst | exact ArgOk.fn | exact ArgOk.ptr rfl rfl | exact ArgOk.aggn rfl (by repeat first | exact .nil | refine .cons (.refl _) ?_ | refine .cons (.nil _) ?_)) (.cons (by first | exact ArgOk.d | exact ArgOk.bor rfl | exact ArgOk.agg rfl | exact ArgOk.agg (toDs_map _) | exact ArgOk.nil_bor | exact ArgOk.nil_lst | exact ArgOk.fn | exact ArgOk.ptr rfl rfl | exact ArgOk.aggn rfl (by repeat first | exact .nil | refine .cons (.refl _) ?_ | refine .cons (.nil _) ?_)) .nil)))) ?_
                case hs => omega
                case ht => omega
                refine AXl.qt_guard (by decide : (129:Nat) < 183) rfl (by kernel_rfl) (Still.qt (s_icmp _ _ _ _ _ rfl rfl rfl)) ?_
                refine AXl.qt rfl (by decide : (130:Nat) < 183) (Still.qt (s_pick_t _ _ _ rfl)) ?_
                refine AXl.nm_e0 ?_
                refine AXl.nil ?_
                refine hK152 _ ?_
                clear hK152 K152
                refine Ethen.n ?_
                refine hK151 _ ?_
                clear hK151 K151
                refine AXc.cond rfl (fun hc154 => ?_) (fun hc154 => ?_)
                · try simp only [decide_eq_true_eq, decide_eq_false_iff_not, Bool.not_eq_true', Bool.not_eq_false', Int.not_lt, Int.not_le, ne_eq, Decidable.not_not, bne_iff_ne, beq_iff_eq, Bool.and_eq_true, Bool.or_eq_true, Bool.and_eq_false_iff, Bool.or_eq_false_iff, Bool.not_not, Ax.u8eq] at hc154
                  refine AXc.region' fun K155 hK155 => ?_
                  refine AXl.qt rfl (by decide : (131:Nat) < 183) (Still.qt (s_move _)) ?_
                  refine AXl.qt rfl (by decide : (132:Nat) < 183) (Still.qt (s_move _)) ?_
                  first
                    | refine AXl.qt rfl (by decide : (133:Nat) < 183) (Still.qt (s_field_loc _ _ _ fdT_45_0_e rfl)) ?_
                    | refine AXl.qt rfl (by decide : (133:Nat) < 183) (Still.qt (s_field_ptr _ _ _ fdT_45_0_e rfl)) ?_
                    | refine AXl.qt rfl (by decide : (133:Nat) < 183) (Still.qt (s_field_row _ _ _ fdT_45_0_e rfl rfl)) ?_
                  first
                    | refine AXl.qt rfl (by decide : (134:Nat) < 183) (Still.qt (s_load1 _ _ ldT_9_e rfl)) ?_
                    | refine AXl.qt rfl (by decide : (134:Nat) < 183) (Still.qt (s_load1_row _ _ ldT_9_e rfl rfl (by first | rfl | exact List.getElem?_eq_getElem (by omega)) rfl)) ?_
                  refine AXl.qt rfl (by decide : (135:Nat) < 183) (Still.qt (s_move _)) ?_
                  refine AXl.nm_e0 ?_
                  refine AXl.qt rfl (by decide : (136:Nat) < 183) (q_call (c27 _ _ _ _) (.cons (by first | exact ArgOk.d | exact ArgOk.bor rfl | exact ArgOk.agg rfl | exact ArgOk.agg (toDs_map _) | exact ArgOk.nil_bor | exact ArgOk.nil_lst | exact ArgOk.fn | exact ArgOk.ptr rfl rfl | exact ArgOk.aggn rfl (by repeat first | exact .nil | refine .cons (.refl _) ?_ | refine .cons (.nil _) ?_)) (.cons (by first | exact ArgOk.d | exact ArgOk.bor rfl | exact ArgOk.agg rfl | exact ArgOk.agg (toDs_map _) | exact ArgOk.nil_bor | exact ArgOk.nil_lst | exact ArgOk.fn | exact ArgOk.ptr rfl rfl | exact ArgOk.aggn rfl (by repeat first | exact .nil | refine .cons (.refl _) ?_ | refine .cons (.nil _) ?_)) (.cons (by first | exact ArgOk.d | exact ArgOk.bor rfl | exact ArgOk.agg rfl | exact ArgOk.agg (toDs_map _) | exact ArgOk.nil_bor | exact ArgOk.nil_lst | exact ArgOk.fn | exact ArgOk.ptr rfl rfl | exact ArgOk.aggn rfl (by repeat first | exact .nil | refine .cons (.refl _) ?_ | refine .cons (.nil _) ?_)) (.cons (by first | exact ArgOk.d | exact ArgOk.bor rfl | exact ArgOk.agg rfl | exact ArgOk.agg (toDs_map _) | exact ArgOk.nil_bor | exact ArgOk.nil_lst | exact ArgOk.fn | exact ArgOk.ptr rfl rfl | exact ArgOk.aggn rfl (by repeat first | exact .nil | refine .cons (.refl _) ?_ | refine .cons (.nil _) ?_)) .nil))))) ?_
                  refine AXl.qt rfl (by decide : (137:Nat) < 183) (q_buildSlice _ _ _ apT_35_e rfl rfl (by decide)) ?_
                  first
                    | refine AXl.append apT_35_e rfl rfl rfl (by simp only [List.length_append, List.length_map, List.length_cons, List.length_nil]; omega) (by simp only [List.length_append, List.length_map, List.length_cons, List.length_nil]; omega) (by decide : (138:Nat) < 183) ?_
                    | refine AXl.append_nil apT_35_e rfl (by decide) rfl (by simp only [List.length_append, List.length_map, List.length_cons, List.length_nil]; omega) (by simp only [List.length_append, List.length_map, List.length_cons, List.length_nil]; omega) (by decide : (138:Nat) < 183) ?_
                  refine AXl.qt rfl (by decide : (5:Nat) < 183) (Still.qt (s_assign _)) ?_
                  refine AXl.nm_e0 ?_
                  refine AXl.nil ?_
                  refine hK155 _ ?_
                  clear hK155 K155
                  refine EinBlock.n ?_
                  refine Ethen.n ?_
                  refine hK143 _ ?_
                  clear hK143 K143
                  refine AXc.region' fun K156 hK156 => ?_
                  refine AXl.qt rfl (by decide : (99:Nat) < 183) (Still.qt (s_move _)) ?_
                  refine AXl.qt rfl (by decide : (100:Nat) < 183) (Still.qt (s_iar _ _ _ _ _ rfl rfl rfl (IntWalk.i64_in _ ⟨(by first | omega | (simp only [List.length_map, List.length_cons, List.length_nil, List.length_append, List.length_take, List.length_drop]; omega)), (by first | omega | (simp only [List.length_map, List.length_cons, List.length_nil, List.length_append, List.length_take, List.length_drop]; omega))⟩))) ?_
                  refine AXl.qt rfl (by decide : (11:Nat) < 183) (Still.qt (s_assign _)) ?_
                  refine AXl.nm_e0 ?_
                  refine AXl.nil ?_
                  refine hK156 _ ?_
                  clear hK156 K156
                  refine Ethen.n ?_
                  clear hK21 K21 hK28 K28 hK136 K136
                  rw [sub_next (getR l r.fields[k].tag) _ _ r.fields[k].subs hj] at hinv3
                  first
                    | (refine ⟨(j + 1, ver3 + 1, out3 ++ [⟨4, k, r.fields[k].tag, r.fields[k].subs[j].code⟩]), ⟨by omega, ?_⟩, by first | omega | (dsimp only; omega), (by refine ⟨?_, ?_, ?_, ?_, ?_, ?_⟩ <;> (simp [subE, lk, AV.low, C.low, LB.low, Problem.ds, TagRule.ds, Fld.ds, Sub.ds, Rec.ds] <;> fail))⟩
                       simp only [hc11, hc27, hc36, hg43, hc142, hc148, hg153, hc154, Bool.true_and, Bool.and_true, Bool.not_true, Bool.not_false, Bool.false_and, Bool.and_false, Bool.and_self, if_true, if_false, ↓reduceIte, Bool.false_eq_true, List.nil_append, List.append_assoc] at hinv3 ⊢
                       exact hinv3)
                    | (refine ⟨(j + 1, ver3 + 1, out3 ++ [⟨5, k, r.fields[k].tag, r.fields[k].subs[j].code⟩]), ⟨by omega, ?_⟩, by first | omega | (dsimp only; omega), (by refine ⟨?_, ?_, ?_, ?_, ?_, ?_⟩ <;> (simp [subE, lk, AV.low, C.low, LB.low, Problem.ds, TagRule.ds, Fld.ds, Sub.ds, Rec.ds] <;> fail))⟩
                       simp only [hc11, hc27, hc36, hg43, hc142, hc148, hg153, hc154, Bool.true_and, Bool.and_true, Bool.not_true, Bool.not_false, Bool.false_and, Bool.and_false, Bool.and_self, if_true, if_false, ↓reduceIte, Bool.false_eq_true, List.nil_append, List.append_assoc] at hinv3 ⊢
                       exact hinv3)
                    | (refine ⟨(j + 1, ver3, out3), ⟨by omega, ?_⟩, by first | omega | (dsimp only; omega), (by refine ⟨?_, ?_, ?_, ?_, ?_, ?_⟩ <;> (simp [subE, lk, AV.low, C.low, LB.low, Problem.ds, TagRule.ds, Fld.ds, Sub.ds, Rec.ds] <;> fail))⟩
                       simp only [hc11, hc27, hc36, hg43, hc142, hc148, hg153, hc154, Bool.true_and, Bool.and_true, Bool.not_true, Bool.not_false, Bool.false_and, Bool.and_false, Bool.and_self, if_true, if_false, ↓reduceIte, Bool.false_eq_true, List.nil_append, List.append_assoc] at hinv3 ⊢
                       exact hinv3)
                · try simp only [decide_eq_true_eq, decide_eq_false_iff_not, Bool.not_eq_true', Bool.not_eq_false', Int.not_lt, Int.not_le, ne_eq, Decidable.not_not, bne_iff_ne, beq_iff_eq, Bool.and_eq_true, Bool.or_eq_true, Bool.and_eq_false_iff, Bool.or_eq_false_iff, Bool.not_not, Ax.u8eq] at hc154
                  refine AXc.skip ?_
                  refine EinBlock.n ?_
                  refine Ethen.n ?_
                  refine hK143 _ ?_
                  clear hK143 K143
                  refine AXc.region' fun K157 hK157 => ?_
                  refine AXl.qt rfl (by decide : (99:Nat) < 183) (Still.qt (s_move _)) ?_
                  refine AXl.qt rfl (by decide : (100:Nat) < 183) (Still.qt (s_iar _ _ _ _ _ rfl rfl rfl (IntWalk.i64_in _ ⟨(by first | omega | (simp only [List.length_map, List.length_cons, List.length_nil, List.length_append, List.length_take, List.length_drop]; omega)), (by first | omega | (simp only [List.length_map, List.length_cons, List.length_nil, List.length_append, List.length_take, List.length_drop]; omega))⟩))) ?_
                  refine AXl.qt rfl (by decide : (11:Nat) < 183) (Still.qt (s_assign _)) ?_
                  refine AXl.nm_e0 ?_
                  refine AXl.nil ?_
                  refine hK157 _ ?_
                  clear hK157 K157
                  refine Ethen.n ?_
                  clear hK21 K21 hK28 K28 hK136 K136
                  rw [sub_next (getR l r.fields[k].tag) _ _ r.fields[k].subs hj] at hinv3
                  first
                    | (refine ⟨(j + 1, ver3 + 1, out3 ++ [⟨4, k, r.fields[k].tag, r.fields[k].subs[j].code⟩]), ⟨by omega, ?_⟩, by first | omega | (dsimp only; omega), (by refine ⟨?_, ?_, ?_, ?_, ?_, ?_⟩ <;> (simp [subE, lk, AV.low, C.low, LB.low, Problem.ds, TagRule.ds, Fld.ds, Sub.ds, Rec.ds] <;> fail))⟩
                       simp only [hc11, hc27, hc36, hg43, hc142, hc148, hg153, hc154, Bool.true_and, Bool.and_true, Bool.not_true, Bool.not_false, Bool.false_and, Bool.and_false, Bool.and_self, if_true, if_false, ↓reduceIte, Bool.false_eq_true, List.nil_append, List.append_assoc] at hinv3 ⊢
                       exact hinv3)
                    | (refine ⟨(j + 1, ver3 + 1, out3 ++ [⟨5, k, r.fields[k].tag, r.fields[k].subs[j].code⟩]), ⟨by omega, ?_⟩, by first | omega | (dsimp only; omega), (by refine ⟨?_, ?_, ?_, ?_, ?_, ?_⟩ <;> (simp [subE, lk, AV.low, C.low, LB.low, Problem.ds, TagRule.ds, Fld.ds, Sub.ds, Rec.ds] <;> fail))⟩
                       simp only [hc11, hc27, hc36, hg43, hc142, hc148, hg153, hc154, Bool.true_and, Bool.and_true, Bool.not_true, Bool.not_false, Bool.false_and, Bool.and_false, Bool.and_self, if_true, if_false, ↓reduceIte, Bool.false_eq_true, List.nil_append, List.append_assoc] at hinv3 ⊢
                       exact hinv3)
                    | (refine ⟨(j + 1, ver3, out3), ⟨by omega, ?_⟩, by first | omega | (dsimp only; omega), (by refine ⟨?_, ?_, ?_, ?_, ?_, ?_⟩ <;> (simp [subE, lk, AV.low, C.low, LB.low, Problem.ds, TagRule.ds, Fld.ds, Sub.ds, Rec.ds] <;> fail))⟩
                       simp only [hc11, hc27, hc36, hg43, hc142, hc148, hg153, hc154, Bool.true_and, Bool.and_true, Bool.not_true, Bool.not_false, Bool.false_and, Bool.and_false, Bool.and_self, if_true, if_false, ↓reduceIte, Bool.false_eq_true, List.nil_append, List.append_assoc] at hinv3 ⊢
                       exact hinv3)
              · try simp only [decide_eq_true_eq, decide_eq_false_iff_not, Bool.not_eq_true', Bool.not_eq_false', Int.not_lt, Int.not_le, ne_eq, Decidable.not_not, bne_iff_ne, beq_iff_eq, Bool.and_eq_true, Bool.or_eq_true, Bool.and_eq_false_iff, Bool.or_eq_false_iff, Bool.not_not, Ax.u8eq] at hg153
                simp only [del, ↓reduceIte, Nat.reduceEqDiff]
                refine AXl.skip_guard (by decide : (125:Nat) < 183) rfl (by kernel_rfl) ?_
                refine AXl.skip_guard (by decide : (126:Nat) < 183) rfl (by kernel_rfl) ?_
                refine AXl.skip_guard (by decide : (127:Nat) < 183) rfl (by kernel_rfl) ?_
                refine AXl.skip_guard (by decide : (128:Nat) < 183) rfl (by kernel_rfl) ?_
                refine AXl.skip_guard (by decide : (129:Nat) < 183) rfl (by kernel_rfl) ?_
                refine AXl.qt rfl (by decide : (130:Nat) < 183) (Still.qt (s_pick_f _ _ _ rfl)) ?_
                refine AXl.nm_e0 ?_
                refine AXl.nil ?_
                refine hK152 _ ?_
                clear hK152 K152
                refine Ethen.n ?_
                refine hK151 _ ?_
                clear hK151 K151
                refine AXc.cond_f rfl ?_
                refine AXc.skip ?_
                refine EinBlock.n ?_
                refine Ethen.n ?_
                refine hK143 _ ?_
                clear hK143 K143
                refine AXc.region' fun K158 hK158 => ?_
                refine AXl.qt rfl (by decide : (99:Nat) < 183) (Still.qt (s_move _)) ?_
                refine AXl.qt rfl (by decide : (100:Nat) < 183) (Still.qt (s_iar _ _ _ _ _ rfl rfl rfl (IntWalk.i64_in _ ⟨(by first | omega | (simp only [List.length_map, List.length_cons, List.length_nil, List.length_append, List.length_take, List.length_drop]; omega)), (by first | omega | (simp only [List.length_map, List.length_cons, List.length_nil, List.length_append, List.length_take, List.length_drop]; omega))⟩))) ?_
                refine AXl.qt rfl (by decide : (11:Nat) < 183) (Still.qt (s_assign _)) ?_
                refine AXl.nm_e0 ?_
                refine AXl.nil ?_
                refine hK158 _ ?_
                clear hK158 K158
                refine Ethen.n ?_
                clear hK21 K21 hK28 K28 hK136 K136
                rw [sub_next (getR l r.fields[k].tag) _ _ r.fields[k].subs hj] at hinv3
                first
                  | (refine ⟨(j + 1, ver3 + 1, out3 ++ [⟨4, k, r.fields[k].tag, r.fields[k].subs[j].code⟩]), ⟨by omega, ?_⟩, by first | omega | (dsimp only; omega), (by refine ⟨?_, ?_, ?_, ?_, ?_, ?_⟩ <;> (simp [subE, lk, AV.low, C.low, LB.low, Problem.ds, TagRule.ds, Fld.ds, Sub.ds, Rec.ds] <;> fail))⟩
                     simp only [hc11, hc27, hc36, hg43, hc142, hc148, hg153, Bool.true_and, Bool.and_true, Bool.not_true, Bool.not_false, Bool.false_and, Bool.and_false, Bool.and_self, if_true, if_false, ↓reduceIte, Bool.false_eq_true, List.nil_append, List.append_assoc] at hinv3 ⊢
                     exact hinv3)
                  | (refine ⟨(j + 1, ver3 + 1, out3 ++ [⟨5, k, r.fields[k].tag, r.fields[k].subs[j].code⟩]), ⟨by omega, ?_⟩, by first | omega | (dsimp only; omega), (by refine ⟨?_, ?_, ?_, ?_, ?_, ?_⟩ <;> (simp [subE, lk, AV.low, C.low, LB.low, Problem.ds, TagRule.ds, Fld.ds, Sub.ds, Rec.ds] <;> fail))⟩
                     simp only [hc11, hc27, hc36, hg43, hc142, hc148, hg153, Bool.true_and, Bool.and_true, Bool.not_true, Bool.not_false, Bool.false_and, Bool.and_false, Bool.and_self, if_true, if_false, ↓reduceIte, Bool.false_eq_true, List.nil_append, List.append_assoc] at hinv3 ⊢
                     exact hinv3)
                  | (refine ⟨(j + 1, ver3, out3), ⟨by omega, ?_⟩, by first | omega | (dsimp only; omega), (by refine ⟨?_, ?_, ?_, ?_, ?_, ?_⟩ <;> (simp [subE, lk, AV.low, C.low, LB.low, Problem.ds, TagRule.ds, Fld.ds, Sub.ds, Rec.ds] <;> fail))⟩
                     simp only [hc11, hc27, hc36, hg43, hc142, hc148, hg153, Bool.true_and, Bool.and_true, Bool.not_true, Bool.not_false, Bool.false_and, Bool.and_false, Bool.and_self, if_true, if_false, ↓reduceIte, Bool.false_eq_true, List.nil_append, List.append_assoc] at hinv3 ⊢
                     exact hinv3)
          · try simp only [decide_eq_true_eq, decide_eq_false_iff_not, Bool.not_eq_true', Bool.not_eq_false', Int.not_lt, Int.not_le, ne_eq, Decidable.not_not, bne_iff_ne, beq_iff_eq, Bool.and_eq_true, Bool.or_eq_true, Bool.and_eq_false_iff, Bool.or_eq_false_iff, Bool.not_not, Ax.u8eq] at hc142
            refine AXc.exit ?_
            refine Ethen.e ?_
            clear hK139 K139
            refine Ethen.e ?_
            refine EinBlock.hit ?_
            refine Ethen.n ?_
            refine hK136 _ ?_
            clear hK136 K136
            refine AXc.seq fun K159 hK159 => ?_
            refine AXc.seq fun K160 hK160 => ?_
            refine AXc.region' fun K161 hK161 => ?_
            refine AXl.qt rfl (by decide : (13:Nat) < 183) (Still.qt (s_assign _)) ?_
            refine AXl.nm_e0 ?_
            refine AXl.nil ?_
            refine hK161 _ ?_
            clear hK161 K161
            refine Ethen.n ?_
            refine hK160 _ ?_
            clear hK160 K160
            refine AXc.block ?_
            refine AXc.loop (S := Nat × Nat × List Problem) (fun ⟨j, ver4, out4⟩ => ⟨[(0, .c (.d (.lst 7 (l.map TagRule.ds)))), (3, .c (.loc 0 0)), (5, .c (.own 1 ver4)), (7, .c (.d (.int .i64 k))), (8, .c (.loc 2 0)), (9, .c (.loc 3 0)), (13, .c (.d (.int .i64 j)))], [.box 27 (r.ds.map C.d), .row 41 4 (out4.map Problem.ds) ver4, .box 45 (Fld.ds r.fields[k] |>.map C.d), .box 29 (TagRule.ds (getR l r.fields[k].tag) |>.map C.d)]⟩) (fun ⟨j, ver4, out4⟩ => j ≤ (getR l r.fields[k].tag).needs.length ∧ out4 ++ (needP r.fields[k].tag k r.fields[k].subs ((getR l r.fields[k].tag).needs.drop j) ++ (authP (getR l r.fields[k].tag) r.fields[k] k ++ fldsP l (r.fields.take (k + 1)) (r.fields.drop (k + 1)))) = mustP r.fields l ++ fldsP l [] r.fields) (fun ⟨j, ver4, out4⟩ => (getR l r.fields[k].tag).needs.length - j) (0, ver3, out3) ⟨by omega, by rw [drop_end (by omega), subP, List.nil_append] at hinv3; exact hinv3⟩ (by refine ⟨?_, ?_, ?_, ?_, ?_, ?_⟩ <;> (simp [subE, lk, AV.low, C.low, LB.low, Problem.ds, TagRule.ds, Fld.ds, Sub.ds, Rec.ds] <;> fail)) ?_
            rintro ⟨j, ver4, out4⟩ ⟨hj0, hinv4⟩
            have hb4 := congrArg List.length hinv4; simp only [List.length_append] at hb4
            try simp only [Problem.ds, TagRule.ds, Fld.ds, Sub.ds, Rec.ds, indexByte_any, indexByte_any', ← List.map_take, Nat.sub_zero, tagd_pos, tagd_zero, cnt_pos, cnt_zero, List.take_length, List.map_cons, List.map_nil]
            refine AXc.seq fun K162 hK162 => ?_
            refine AXc.seq fun K163 hK163 => ?_
            refine AXc.region' fun K164 hK164 => ?_
            refine AXl.qt rfl (by decide : (139:Nat) < 183) (Still.qt (s_move _)) ?_
            first
              | refine AXl.qt rfl (by decide : (140:Nat) < 183) (Still.qt (s_field_loc _ _ _ fdT_29_5_e rfl)) ?_
              | refine AXl.qt rfl (by decide : (140:Nat) < 183) (Still.qt (s_field_ptr _ _ _ fdT_29_5_e rfl)) ?_
              | refine AXl.qt rfl (by decide : (140:Nat) < 183) (Still.qt (s_field_row _ _ _ fdT_29_5_e rfl rfl)) ?_
            first
              | refine AXl.qt rfl (by decide : (141:Nat) < 183) (Still.qt (s_load1 _ _ ldT_9_e rfl)) ?_
              | refine AXl.qt rfl (by decide : (141:Nat) < 183) (Still.qt (s_load1_row _ _ ldT_9_e rfl rfl (by first | rfl | exact List.getElem?_eq_getElem (by omega)) rfl)) ?_
            refine AXl.qt rfl (by decide : (142:Nat) < 183) (Still.qt (s_len_str _ _ Tryd.underlying9 rfl)) ?_
            refine AXl.qt rfl (by decide : (143:Nat) < 183) (Still.qt (s_icmp _ _ _ _ _ rfl rfl rfl)) ?_
            refine AXl.nm_e0 ?_
            refine AXl.nil ?_
            refine hK164 _ ?_
            clear hK164 K164
            refine Ethen.n ?_
            refine hK163 _ ?_
            clear hK163 K163
            refine AXc.cond rfl (fun hc165 => ?_) (fun hc165 => ?_)
            · try simp only [decide_eq_true_eq, decide_eq_false_iff_not, Bool.not_eq_true', Bool.not_eq_false', Int.not_lt, Int.not_le, ne_eq, Decidable.not_not, bne_iff_ne, beq_iff_eq, Bool.and_eq_true, Bool.or_eq_true, Bool.and_eq_false_iff, Bool.or_eq_false_iff, Bool.not_not, Ax.u8eq] at hc165
              have hj4 : j < (getR l r.fields[k].tag).needs.length := by omega
              refine AXc.skip ?_
              refine Ethen.n ?_
              refine hK162 _ ?_
              clear hK162 K162
              refine AXc.seq fun K166 hK166 => ?_
              refine AXc.block ?_
              refine AXc.seq fun K167 hK167 => ?_
              refine AXc.draw' mixed_e 10 (by kernel_rfl) fun K168 hK168 => ?_
              simp only [List.take_succ_cons, List.take_zero, List.take_nil, List.drop_succ_cons, List.drop_zero, List.drop_nil]
              first
                | refine AXd.op rfl (Still.qt (s_loadN _ _ ldT_45_e rfl (by simp [Problem.ds, TagRule.ds, Fld.ds, Sub.ds, Rec.ds]))) ?_
                | refine AXd.op rfl (Still.qt (s_loadN_row _ _ ldT_45_e rfl rfl (by first | rfl | exact List.getElem?_eq_getElem (by omega)) (by simp [Problem.ds, TagRule.ds, Fld.ds, Sub.ds, Rec.ds]))) ?_
              first
                | refine AXd.op rfl (Still.qt (s_field_loc _ _ _ fdT_45_2_e rfl)) ?_
                | refine AXd.op rfl (Still.qt (s_field_ptr _ _ _ fdT_45_2_e rfl)) ?_
                | refine AXd.op rfl (Still.qt (s_field_row _ _ _ fdT_45_2_e rfl rfl)) ?_
              first
                | refine AXd.op rfl (Still.qt (s_load1 _ _ ldT_43_e rfl)) ?_
                | refine AXd.op rfl (Still.qt (s_load1_row _ _ ldT_43_e rfl rfl (by first | rfl | exact List.getElem?_eq_getElem (by omega)) rfl)) ?_
              first
                | refine AXd.op rfl (Still.qt (s_len _ _ Tryd.underlying43 rfl)) ?_
                | refine AXd.op rfl (Still.qt (s_len_nil _ _ Tryd.underlying43 rfl)) ?_
              first
                | refine AXd.op rfl (Still.qt (s_field_loc _ _ _ fdT_29_5_e rfl)) ?_
                | refine AXd.op rfl (Still.qt (s_field_ptr _ _ _ fdT_29_5_e rfl)) ?_
                | refine AXd.op rfl (Still.qt (s_field_row _ _ _ fdT_29_5_e rfl rfl)) ?_
              first
                | refine AXd.op rfl (Still.qt (s_load1 _ _ ldT_9_e rfl)) ?_
                | refine AXd.op rfl (Still.qt (s_load1_row _ _ ldT_9_e rfl rfl (by first | rfl | exact List.getElem?_eq_getElem (by omega)) rfl)) ?_
              refine AXd.op rfl (Still.qt (s_move _)) ?_
              refine AXd.nm_e0 ?_
              refine AXd.op rfl (Still.qt (s_index_str _ _ _ Tryd.underlying9 rfl rfl (by first | omega | (simp only [List.length_map, List.length_cons, List.length_nil, List.length_append, List.length_take, List.length_drop]; omega)) (List.getElem?_eq_getElem (by first | omega | (simp only [List.length_map, List.length_cons, List.length_nil, List.length_append, List.length_take, List.length_drop]; omega))))) ?_
              refine AXd.nm_e0 ?_
              refine AXd.op rfl (q_call (c29 r.fields[k] _ _ ?hs ?ht) (.cons (by first | exact ArgOk.d | exact ArgOk.bor rfl | exact ArgOk.agg rfl | exact ArgOk.agg (toDs_map _) | exact ArgOk.nil_bor | exact ArgOk.nil_lst | exact ArgOk.fn | exact ArgOk.ptr rfl rfl | exact ArgOk.aggn rfl (by repeat first | exact .nil | refine .cons (.refl _) ?_ | refine .cons (.nil _) ?_)) (.cons (by first | exact ArgOk.d | exact ArgOk.bor rfl | exact ArgOk.agg rfl | exact ArgOk.agg (toDs_map _) | exact ArgOk.nil_bor | exact ArgOk.nil_lst | exact ArgOk.fn | exact ArgOk.ptr rfl rfl | exact ArgOk.aggn rfl (by repeat first | exact .nil | refine .cons (.refl _) ?_ | refine .cons (.nil _) ?_)) (.cons (by first | exact ArgOk.d | exact ArgOk.bor rfl | exact ArgOk.agg rfl | exact ArgOk.agg (toDs_map _) | exact ArgOk.nil_bor | exact ArgOk.nil_lst | exact ArgOk.fn | exact ArgOk.ptr rfl rfl | exact ArgOk.aggn rfl (by repeat first | exact .nil | refine .cons (.refl _) ?_ | refine .cons (.nil _) ?_)) .nil)))) ?_
              case hs => omega
              case ht => omega
              refine AXd.op rfl (Still.qt (s_icmp _ _ _ _ _ rfl rfl rfl)) ?_
              refine AXd.nm_e0 ?_
              refine AXd.nil ?_
              refine AXl.nil ?_
              refine hK168 _ ?_
              clear hK168 K168
              refine Ethen.n ?_
              refine hK167 _ ?_
              clear hK167 K167
              refine AXc.cond rfl (fun hc169 => ?_) (fun hc169 => ?_)
              · try simp only [decide_eq_true_eq, decide_eq_false_iff_not, Bool.not_eq_true', Bool.not_eq_false', Int.not_lt, Int.not_le, ne_eq, Decidable.not_not, bne_iff_ne, beq_iff_eq, Bool.and_eq_true, Bool.or_eq_true, Bool.and_eq_false_iff, Bool.or_eq_false_iff, Bool.not_not, Ax.u8eq] at hc169
                refine AXc.draw' mixed_e 10 (by kernel_rfl) fun K170 hK170 => ?_
                simp only [List.take_succ_cons, List.take_zero, List.take_nil, List.drop_succ_cons, List.drop_zero, List.drop_nil]
                refine AXd.op rfl (Still.qt (s_move _)) ?_
                refine AXd.op rfl (Still.qt (s_move _)) ?_
                first
                  | refine AXd.op rfl (Still.qt (s_field_loc _ _ _ fdT_45_0_e rfl)) ?_
                  | refine AXd.op rfl (Still.qt (s_field_ptr _ _ _ fdT_45_0_e rfl)) ?_
                  | refine AXd.op rfl (Still.qt (s_field_row _ _ _ fdT_45_0_e rfl rfl)) ?_
                first
                  | refine AXd.op rfl (Still.qt (s_load1 _ _ ldT_9_e rfl)) ?_
                  | refine AXd.op rfl (Still.qt (s_load1_row _ _ ldT_9_e rfl rfl (by first | rfl | exact List.getElem?_eq_getElem (by omega)) rfl)) ?_
                first
                  | refine AXd.op rfl (Still.qt (s_field_loc _ _ _ fdT_29_5_e rfl)) ?_
                  | refine AXd.op rfl (Still.qt (s_field_ptr _ _ _ fdT_29_5_e rfl)) ?_
                  | refine AXd.op rfl (Still.qt (s_field_row _ _ _ fdT_29_5_e rfl rfl)) ?_
                first
                  | refine AXd.op rfl (Still.qt (s_load1 _ _ ldT_9_e rfl)) ?_
                  | refine AXd.op rfl (Still.qt (s_load1_row _ _ ldT_9_e rfl rfl (by first | rfl | exact List.getElem?_eq_getElem (by omega)) rfl)) ?_
                refine AXd.op rfl (Still.qt (s_move _)) ?_
                refine AXd.nm_e0 ?_
                refine AXd.op rfl (Still.qt (s_index_str _ _ _ Tryd.underlying9 rfl rfl (by first | omega | (simp only [List.length_map, List.length_cons, List.length_nil, List.length_append, List.length_take, List.length_drop]; omega)) (List.getElem?_eq_getElem (by first | omega | (simp only [List.length_map, List.length_cons, List.length_nil, List.length_append, List.length_take, List.length_drop]; omega))))) ?_
                refine AXd.nm_e0 ?_
                refine AXd.op rfl (q_call (c27 _ _ _ _) (.cons (by first | exact ArgOk.d | exact ArgOk.bor rfl | exact ArgOk.agg rfl | exact ArgOk.agg (toDs_map _) | exact ArgOk.nil_bor | exact ArgOk.nil_lst | exact ArgOk.fn | exact ArgOk.ptr rfl rfl | exact ArgOk.aggn rfl (by repeat first | exact .nil | refine .cons (.refl _) ?_ | refine .cons (.nil _) ?_)) (.cons (by first | exact ArgOk.d | exact ArgOk.bor rfl | exact ArgOk.agg rfl | exact ArgOk.agg (toDs_map _) | exact ArgOk.nil_bor | exact ArgOk.nil_lst | exact ArgOk.fn | exact ArgOk.ptr rfl rfl | exact ArgOk.aggn rfl (by repeat first | exact .nil | refine .cons (.refl _) ?_ | refine .cons (.nil _) ?_)) (.cons (by first | exact ArgOk.d | exact ArgOk.bor rfl | exact ArgOk.agg rfl | exact ArgOk.agg (toDs_map _) | exact ArgOk.nil_bor | exact ArgOk.nil_lst | exact ArgOk.fn | exact ArgOk.ptr rfl rfl | exact ArgOk.aggn rfl (by repeat first | exact .nil | refine .cons (.refl _) ?_ | refine .cons (.nil _) ?_)) (.cons (by first | exact ArgOk.d | exact ArgOk.bor rfl | exact ArgOk.agg rfl | exact ArgOk.agg (toDs_map _) | exact ArgOk.nil_bor | exact ArgOk.nil_lst | exact ArgOk.fn | exact ArgOk.ptr rfl rfl | exact ArgOk.aggn rfl (by repeat first | exact .nil | refine .cons (.refl _) ?_ | refine .cons (.nil _) ?_)) .nil))))) ?_
                refine AXd.op rfl (q_buildSlice _ _ _ apT_35_e rfl rfl (by decide)) ?_
                refine AXd.nm_e0 ?_
                refine AXd.nil ?_
                first
                  | refine AXl.append apT_35_e rfl rfl rfl (by simp only [List.length_append, List.length_map, List.length_cons, List.length_nil]; omega) (by simp only [List.length_append, List.length_map, List.length_cons, List.length_nil]; omega) (by decide : (166:Nat) < 183) ?_
                  | refine AXl.append_nil apT_35_e rfl (by decide) rfl (by simp only [List.length_append, List.length_map, List.length_cons, List.length_nil]; omega) (by simp only [List.length_append, List.length_map, List.length_cons, List.length_nil]; omega) (by decide : (166:Nat) < 183) ?_
                refine AXl.qt rfl (by decide : (5:Nat) < 183) (Still.qt (s_assign _)) ?_
                refine AXl.nm_e0 ?_
                refine AXl.nil ?_
                refine hK170 _ ?_
                clear hK170 K170
                refine EinBlock.n ?_
                refine Ethen.n ?_
                refine hK166 _ ?_
                clear hK166 K166
                refine AXc.region' fun K171 hK171 => ?_
                refine AXl.qt rfl (by decide : (144:Nat) < 183) (Still.qt (s_move _)) ?_
                refine AXl.qt rfl (by decide : (145:Nat) < 183) (Still.qt (s_iar _ _ _ _ _ rfl rfl rfl (IntWalk.i64_in _ ⟨(by first | omega | (simp only [List.length_map, List.length_cons, List.length_nil, List.length_append, List.length_take, List.length_drop]; omega)), (by first | omega | (simp only [List.length_map, List.length_cons, List.length_nil, List.length_append, List.length_take, List.length_drop]; omega))⟩))) ?_
                refine AXl.qt rfl (by decide : (13:Nat) < 183) (Still.qt (s_assign _)) ?_
                refine AXl.nm_e0 ?_
                refine AXl.nil ?_
                refine hK171 _ ?_
                clear hK171 K171
                refine Ethen.n ?_
                clear hK21 K21 hK28 K28 hK159 K159
                rw [need_next _ _ r.fields[k].subs _ hj4] at hinv4
                first
                  | (refine ⟨(j + 1, ver4 + 1, out4 ++ [⟨6, k, r.fields[k].tag, (getR l r.fields[k].tag).needs[j]⟩]), ⟨by omega, ?_⟩, by first | omega | (dsimp only; omega), (by refine ⟨?_, ?_, ?_, ?_, ?_, ?_⟩ <;> (simp [subE, lk, AV.low, C.low, LB.low, Problem.ds, TagRule.ds, Fld.ds, Sub.ds, Rec.ds] <;> fail))⟩
                     simp only [hc11, hc27, hc36, hg43, hc142, hc165, hc169, Bool.true_and, Bool.and_true, Bool.not_true, Bool.not_false, Bool.false_and, Bool.and_false, Bool.and_self, if_true, if_false, ↓reduceIte, Bool.false_eq_true, List.nil_append, List.append_assoc] at hinv4 ⊢
                     exact hinv4)
                  | (refine ⟨(j + 1, ver4, out4), ⟨by omega, ?_⟩, by first | omega | (dsimp only; omega), (by refine ⟨?_, ?_, ?_, ?_, ?_, ?_⟩ <;> (simp [subE, lk, AV.low, C.low, LB.low, Problem.ds, TagRule.ds, Fld.ds, Sub.ds, Rec.ds] <;> fail))⟩
                     simp only [hc11, hc27, hc36, hg43, hc142, hc165, hc169, Bool.true_and, Bool.and_true, Bool.not_true, Bool.not_false, Bool.false_and, Bool.and_false, Bool.and_self, if_true, if_false, ↓reduceIte, Bool.false_eq_true, List.nil_append, List.append_assoc] at hinv4 ⊢
                     exact hinv4)
              · try simp only [decide_eq_true_eq, decide_eq_false_iff_not, Bool.not_eq_true', Bool.not_eq_false', Int.not_lt, Int.not_le, ne_eq, Decidable.not_not, bne_iff_ne, beq_iff_eq, Bool.and_eq_true, Bool.or_eq_true, Bool.and_eq_false_iff, Bool.or_eq_false_iff, Bool.not_not, Ax.u8eq] at hc169
                refine AXc.skip ?_
                refine EinBlock.n ?_
                refine Ethen.n ?_
                refine hK166 _ ?_
                clear hK166 K166
                refine AXc.region' fun K172 hK172 => ?_
                refine AXl.qt rfl (by decide : (144:Nat) < 183) (Still.qt (s_move _)) ?_
                refine AXl.qt rfl (by decide : (145:Nat) < 183) (Still.qt (s_iar _ _ _ _ _ rfl rfl rfl (IntWalk.i64_in _ ⟨(by first | omega | (simp only [List.length_map, List.length_cons, List.length_nil, List.length_append, List.length_take, List.length_drop]; omega)), (by first | omega | (simp only [List.length_map, List.length_cons, List.length_nil, List.length_append, List.length_take, List.length_drop]; omega))⟩))) ?_
                refine AXl.qt rfl (by decide : (13:Nat) < 183) (Still.qt (s_assign _)) ?_
                refine AXl.nm_e0 ?_
                refine AXl.nil ?_
                refine hK172 _ ?_
                clear hK172 K172
                refine Ethen.n ?_
                clear hK21 K21 hK28 K28 hK159 K159
                rw [need_next _ _ r.fields[k].subs _ hj4] at hinv4
                first
                  | (refine ⟨(j + 1, ver4 + 1, out4 ++ [⟨6, k, r.fields[k].tag, (getR l r.fields[k].tag).needs[j]⟩]), ⟨by omega, ?_⟩, by first | omega | (dsimp only; omega), (by refine ⟨?_, ?_, ?_, ?_, ?_, ?_⟩ <;> (simp [subE, lk, AV.low, C.low, LB.low, Problem.ds, TagRule.ds, Fld.ds, Sub.ds, Rec.ds] <;> fail))⟩
                     simp only [hc11, hc27, hc36, hg43, hc142, hc165, hc169, Bool.true_and, Bool.and_true, Bool.not_true, Bool.not_false, Bool.false_and, Bool.and_false, Bool.and_self, if_true, if_false, ↓reduceIte, Bool.false_eq_true, List.nil_append, List.append_assoc] at hinv4 ⊢
                     exact hinv4)
                  | (refine ⟨(j + 1, ver4, out4), ⟨by omega, ?_⟩, by first | omega | (dsimp only; omega), (by refine ⟨?_, ?_, ?_, ?_, ?_, ?_⟩ <;> (simp [subE, lk, AV.low, C.low, LB.low, Problem.ds, TagRule.ds, Fld.ds, Sub.ds, Rec.ds] <;> fail))⟩
                     simp only [hc11, hc27, hc36, hg43, hc142, hc165, hc169, Bool.true_and, Bool.and_true, Bool.not_true, Bool.not_false, Bool.false_and, Bool.and_false, Bool.and_self, if_true, if_false, ↓reduceIte, Bool.false_eq_true, List.nil_append, List.append_assoc] at hinv4 ⊢
                     exact hinv4)
            · try simp only [decide_eq_true_eq, decide_eq_false_iff_not, Bool.not_eq_true', Bool.not_eq_false', Int.not_lt, Int.not_le, ne_eq, Decidable.not_not, bne_iff_ne, beq_iff_eq, Bool.and_eq_true, Bool.or_eq_true, Bool.and_eq_false_iff, Bool.or_eq_false_iff, Bool.not_not, Ax.u8eq] at hc165
              refine AXc.exit ?_
              refine Ethen.e ?_
              clear hK162 K162
              refine Ethen.e ?_
              refine EinBlock.hit ?_
              refine Ethen.n ?_
              refine hK159 _ ?_
              clear hK159 K159
              refine AXc.seq fun K173 hK173 => ?_
              refine AXc.region' fun K174 hK174 => ?_
              first
                | refine AXl.qt rfl (by decide : (167:Nat) < 183) (Still.qt (s_field_loc _ _ _ fdT_45_3_e rfl)) ?_
                | refine AXl.qt rfl (by decide : (167:Nat) < 183) (Still.qt (s_field_ptr _ _ _ fdT_45_3_e rfl)) ?_
                | refine AXl.qt rfl (by decide : (167:Nat) < 183) (Still.qt (s_field_row _ _ _ fdT_45_3_e rfl rfl)) ?_
              first
                | refine AXl.qt rfl (by decide : (168:Nat) < 183) (Still.qt (s_load1 _ _ ldT_3_e rfl)) ?_
                | refine AXl.qt rfl (by decide : (168:Nat) < 183) (Still.qt (s_load1_row _ _ ldT_3_e rfl rfl (by first | rfl | exact List.getElem?_eq_getElem (by omega)) rfl)) ?_
              refine AXl.qt rfl (by decide : (169:Nat) < 183) (Still.qt (s_icmp _ _ _ _ _ rfl rfl rfl)) ?_
              refine AXl.qt rfl (by decide : (170:Nat) < 183) (Still.qt (s_move _)) ?_
              refine AXl.nm_e0 ?_
              refine AXl.split 170 _ rfl (fun hg175 => ?_) (fun hg175 => ?_)
              · try simp only [decide_eq_true_eq, decide_eq_false_iff_not, Bool.not_eq_true', Bool.not_eq_false', Int.not_lt, Int.not_le, ne_eq, Decidable.not_not, bne_iff_ne, beq_iff_eq, Bool.and_eq_true, Bool.or_eq_true, Bool.and_eq_false_iff, Bool.or_eq_false_iff, Bool.not_not, Ax.u8eq] at hg175
                simp only [del, ↓reduceIte, Nat.reduceEqDiff]
                first
                  | refine AXl.qt_guard (by decide : (171:Nat) < 183) rfl (by kernel_rfl) (Still.qt (s_field_loc _ _ _ fdT_29_6_e rfl)) ?_
                  | refine AXl.qt_guard (by decide : (171:Nat) < 183) rfl (by kernel_rfl) (Still.qt (s_field_ptr _ _ _ fdT_29_6_e rfl)) ?_
                  | refine AXl.qt_guard (by decide : (171:Nat) < 183) rfl (by kernel_rfl) (Still.qt (s_field_row _ _ _ fdT_29_6_e rfl rfl)) ?_
                first
                  | refine AXl.qt_guard (by decide : (172:Nat) < 183) rfl (by kernel_rfl) (Still.qt (s_load1 _ _ ldT_3_e rfl)) ?_
                  | refine AXl.qt_guard (by decide : (172:Nat) < 183) rfl (by kernel_rfl) (Still.qt (s_load1_row _ _ ldT_3_e rfl rfl (by first | rfl | exact List.getElem?_eq_getElem (by omega)) rfl)) ?_
                refine AXl.qt_guard (by decide : (173:Nat) < 183) rfl (by kernel_rfl) (Still.qt (s_icmp _ _ _ _ _ rfl rfl rfl)) ?_
                refine AXl.qt rfl (by decide : (174:Nat) < 183) (Still.qt (s_pick_t _ _ _ rfl)) ?_
                refine AXl.nm_e0 ?_
                refine AXl.nil ?_
                refine hK174 _ ?_
                clear hK174 K174
                refine Ethen.n ?_
                refine hK173 _ ?_
                clear hK173 K173
                refine AXc.cond rfl (fun hc176 => ?_) (fun hc176 => ?_)
                · try simp only [decide_eq_true_eq, decide_eq_false_iff_not, Bool.not_eq_true', Bool.not_eq_false', Int.not_lt, Int.not_le, ne_eq, Decidable.not_not, bne_iff_ne, beq_iff_eq, Bool.and_eq_true, Bool.or_eq_true, Bool.and_eq_false_iff, Bool.or_eq_false_iff, Bool.not_not, Ax.u8eq] at hc176
                  refine AXc.region' fun K177 hK177 => ?_
                  refine AXl.qt rfl (by decide : (175:Nat) < 183) (Still.qt (s_move _)) ?_
                  refine AXl.qt rfl (by decide : (176:Nat) < 183) (Still.qt (s_move _)) ?_
                  first
                    | refine AXl.qt rfl (by decide : (177:Nat) < 183) (Still.qt (s_field_loc _ _ _ fdT_45_0_e rfl)) ?_
                    | refine AXl.qt rfl (by decide : (177:Nat) < 183) (Still.qt (s_field_ptr _ _ _ fdT_45_0_e rfl)) ?_
                    | refine AXl.qt rfl (by decide : (177:Nat) < 183) (Still.qt (s_field_row _ _ _ fdT_45_0_e rfl rfl)) ?_
                  first
                    | refine AXl.qt rfl (by decide : (178:Nat) < 183) (Still.qt (s_load1 _ _ ldT_9_e rfl)) ?_
                    | refine AXl.qt rfl (by decide : (178:Nat) < 183) (Still.qt (s_load1_row _ _ ldT_9_e rfl rfl (by first | rfl | exact List.getElem?_eq_getElem (by omega)) rfl)) ?_
                  refine AXl.nm_e0 ?_
                  refine AXl.qt rfl (by decide : (179:Nat) < 183) (q_call (c27 7 _ _ 0) (.cons (by first | exact ArgOk.d | exact ArgOk.bor rfl | exact ArgOk.agg rfl | exact ArgOk.agg (toDs_map _) | exact ArgOk.nil_bor | exact ArgOk.nil_lst | exact ArgOk.fn | exact ArgOk.ptr rfl rfl | exact ArgOk.aggn rfl (by repeat first | exact .nil | refine .cons (.refl _) ?_ | refine .cons (.nil _) ?_)) (.cons (by first | exact ArgOk.d | exact ArgOk.bor rfl | exact ArgOk.agg rfl | exact ArgOk.agg (toDs_map _) | exact ArgOk.nil_bor | exact ArgOk.nil_lst | exact ArgOk.fn | exact ArgOk.ptr rfl rfl | exact ArgOk.aggn rfl (by repeat first | exact .nil | refine .cons (.refl _) ?_ | refine .cons (.nil _) ?_)) (.cons (by first | exact ArgOk.d | exact ArgOk.bor rfl | exact ArgOk.agg rfl | exact ArgOk.agg (toDs_map _) | exact ArgOk.nil_bor | exact ArgOk.nil_lst | exact ArgOk.fn | exact ArgOk.ptr rfl rfl | exact ArgOk.aggn rfl (by repeat first | exact .nil | refine .cons (.refl _) ?_ | refine .cons (.nil _) ?_)) (.cons (by first | exact ArgOk.d | exact ArgOk.bor rfl | exact ArgOk.agg rfl | exact ArgOk.agg (toDs_map _) | exact ArgOk.nil_bor | exact ArgOk.nil_lst | exact ArgOk.fn | exact ArgOk.ptr rfl rfl | exact ArgOk.aggn rfl (by repeat first | exact .nil | refine .cons (.refl _) ?_ | refine .cons (.nil _) ?_)) .nil))))) ?_
                  refine AXl.qt rfl (by decide : (180:Nat) < 183) (q_buildSlice _ _ _ apT_35_e rfl rfl (by decide)) ?_
                  first
                    | refine AXl.append apT_35_e rfl rfl rfl (by simp only [List.length_append, List.length_map, List.length_cons, List.length_nil]; omega) (by simp only [List.length_append, List.length_map, List.length_cons, List.length_nil]; omega) (by decide : (181:Nat) < 183) ?_
                    | refine AXl.append_nil apT_35_e rfl (by decide) rfl (by simp only [List.length_append, List.length_map, List.length_cons, List.length_nil]; omega) (by simp only [List.length_append, List.length_map, List.length_cons, List.length_nil]; omega) (by decide : (181:Nat) < 183) ?_
                  refine AXl.qt rfl (by decide : (5:Nat) < 183) (Still.qt (s_assign _)) ?_
                  refine AXl.nm_e0 ?_
                  refine AXl.nil ?_
                  refine hK177 _ ?_
                  clear hK177 K177
                  refine EinBlock.n ?_
                  refine Ethen.n ?_
                  refine hK28 _ ?_
                  clear hK28 K28
                  refine AXc.region' fun K178 hK178 => ?_
                  refine AXl.qt rfl (by decide : (53:Nat) < 183) (Still.qt (s_move _)) ?_
                  refine AXl.qt rfl (by decide : (54:Nat) < 183) (Still.qt (s_iar _ _ _ _ _ rfl rfl rfl (IntWalk.i64_in _ ⟨(by first | omega | (simp only [List.length_map, List.length_cons, List.length_nil, List.length_append, List.length_take, List.length_drop]; omega)), (by first | omega | (simp only [List.length_map, List.length_cons, List.length_nil, List.length_append, List.length_take, List.length_drop]; omega))⟩))) ?_
                  refine AXl.qt rfl (by decide : (7:Nat) < 183) (Still.qt (s_assign _)) ?_
                  refine AXl.nm_e0 ?_
                  refine AXl.nil ?_
                  refine hK178 _ ?_
                  clear hK178 K178
                  refine Ethen.n ?_
                  clear hK21 K21
                  first
                    | (refine ⟨(k + 1, ver + 1, out ++ [⟨2, k, r.fields[k].tag, 0⟩]), ?_⟩
                       refine ⟨⟨?_, ?_⟩, ?_, ?_⟩
                       · omega
                       · rw [flds_next l r.fields hk] at hinv; unfold oneP at hinv
                         simp only [hc11, hc27, hc36, hg43, hc142, hc165, hg175, hc176, Bool.true_and, Bool.and_true, Bool.not_true, Bool.not_false, Bool.false_and, Bool.and_false, Bool.and_self, if_true, if_false, ↓reduceIte, Bool.false_eq_true, List.nil_append, List.append_assoc] at hinv ⊢
                         exact hinv
                       · first | omega | (dsimp only; omega)
                       · refine ⟨?_, ?_, ?_, ?_, ?_, ?_⟩ <;> (simp [subE, lk, AV.low, C.low, LB.low, Problem.ds, TagRule.ds, Fld.ds, Sub.ds, Rec.ds] <;> fail))
                    | (refine ⟨(k + 1, ver4 + 1, out4 ++ [⟨7, k, r.fields[k].tag, 0⟩]), ?_⟩
                       refine ⟨⟨?_, ?_⟩, ?_, ?_⟩
                       · omega
                       · rw [drop_end (by omega), needP, List.nil_append, authP] at hinv4
                         have hcd : (r.fields[k].auth ≠ 0 ∧ (getR l r.fields[k].tag).auth = 0) = True := by simp only [hc11, hc27, hc36, hg43, hc142, hc165, hg175, hc176, ne_eq, not_false_eq_true, and_self, and_true, true_and]
                         simp only [hcd, if_true] at hinv4
                         rw [List.append_assoc]; exact hinv4
                       · first | omega | (dsimp only; omega)
                       · refine ⟨?_, ?_, ?_, ?_, ?_, ?_⟩ <;> (simp [subE, lk, AV.low, C.low, LB.low, Problem.ds, TagRule.ds, Fld.ds, Sub.ds, Rec.ds] <;> fail))
                    | (refine ⟨(k + 1, ver4, out4), ?_⟩
                       refine ⟨⟨?_, ?_⟩, ?_, ?_⟩
                       · omega
                       · rw [drop_end (by omega), needP, List.nil_append, authP] at hinv4
                         have hcd : (r.fields[k].auth ≠ 0 ∧ (getR l r.fields[k].tag).auth = 0) = False := by simp only [hc11, hc27, hc36, hg43, hc142, hc165, hg175, hc176, ne_eq, not_false_eq_true, not_true_eq_false, and_false, false_and, and_self]
                         simp only [hcd, if_false, List.nil_append] at hinv4
                         exact hinv4
                       · first | omega | (dsimp only; omega)
                       · refine ⟨?_, ?_, ?_, ?_, ?_, ?_⟩ <;> (simp [subE, lk, AV.low, C.low, LB.low, Problem.ds, TagRule.ds, Fld.ds, Sub.ds, Rec.ds] <;> fail))
                · try simp only [decide_eq_true_eq, decide_eq_false_iff_not, Bool.not_eq_true', Bool.not_eq_false', Int.not_lt, Int.not_le, ne_eq, Decidable.not_not, bne_iff_ne, beq_iff_eq, Bool.and_eq_true, Bool.or_eq_true, Bool.and_eq_false_iff, Bool.or_eq_false_iff, Bool.not_not, Ax.u8eq] at hc176
                  refine AXc.skip ?_
                  refine EinBlock.n ?_
                  refine Ethen.n ?_
                  refine hK28 _ ?_
                  clear hK28 K28
                  refine AXc.region' fun K179 hK179 => ?_
                  refine AXl.qt rfl (by decide : (53:Nat) < 183) (Still.qt (s_move _)) ?_
                  refine AXl.qt rfl (by decide : (54:Nat) < 183) (Still.qt (s_iar _ _ _ _ _ rfl rfl rfl (IntWalk.i64_in _ ⟨(by first | omega | (simp only [List.length_map, List.length_cons, List.length_nil, List.length_append, List.length_take, List.length_drop]; omega)), (by first | omega | (simp only [List.length_map, List.length_cons, List.length_nil, List.length_append, List.length_take, List.length_drop]; omega))⟩))) ?_
                  refine AXl.qt rfl (by decide : (7:Nat) < 183) (Still.qt (s_assign _)) ?_
                  refine AXl.nm_e0 ?_
                  refine AXl.nil ?_
                  refine hK179 _ ?_
                  clear hK179 K179
                  refine Ethen.n ?_
                  clear hK21 K21
                  first
                    | (refine ⟨(k + 1, ver + 1, out ++ [⟨2, k, r.fields[k].tag, 0⟩]), ?_⟩
                       refine ⟨⟨?_, ?_⟩, ?_, ?_⟩
                       · omega
                       · rw [flds_next l r.fields hk] at hinv; unfold oneP at hinv
                         simp only [hc11, hc27, hc36, hg43, hc142, hc165, hg175, hc176, Bool.true_and, Bool.and_true, Bool.not_true, Bool.not_false, Bool.false_and, Bool.and_false, Bool.and_self, if_true, if_false, ↓reduceIte, Bool.false_eq_true, List.nil_append, List.append_assoc] at hinv ⊢
                         exact hinv
                       · first | omega | (dsimp only; omega)
                       · refine ⟨?_, ?_, ?_, ?_, ?_, ?_⟩ <;> (simp [subE, lk, AV.low, C.low, LB.low, Problem.ds, TagRule.ds, Fld.ds, Sub.ds, Rec.ds] <;> fail))
                    | (refine ⟨(k + 1, ver4 + 1, out4 ++ [⟨7, k, r.fields[k].tag, 0⟩]), ?_⟩
                       refine ⟨⟨?_, ?_⟩, ?_, ?_⟩
                       · omega
                       · rw [drop_end (by omega), needP, List.nil_append, authP] at hinv4
                         have hcd : (r.fields[k].auth ≠ 0 ∧ (getR l r.fields[k].tag).auth = 0) = True := by simp only [hc11, hc27, hc36, hg43, hc142, hc165, hg175, hc176, ne_eq, not_false_eq_true, and_self, and_true, true_and]
                         simp only [hcd, if_true] at hinv4
                         rw [List.append_assoc]; exact hinv4
                       · first | omega | (dsimp only; omega)
                       · refine ⟨?_, ?_, ?_, ?_, ?_, ?_⟩ <;> (simp [subE, lk, AV.low, C.low, LB.low, Problem.ds, TagRule.ds, Fld.ds, Sub.ds, Rec.ds] <;> fail))
                    | (refine ⟨(k + 1, ver4, out4), ?_⟩
                       refine ⟨⟨?_, ?_⟩, ?_, ?_⟩
                       · omega
                       · rw [drop_end (by omega), needP, List.nil_append, authP] at hinv4
                         have hcd : (r.fields[k].auth ≠ 0 ∧ (getR l r.fields[k].tag).auth = 0) = False := by simp only [hc11, hc27, hc36, hg43, hc142, hc165, hg175, hc176, ne_eq, not_false_eq_true, not_true_eq_false, and_false, false_and, and_self]
                         simp only [hcd, if_false, List.nil_append] at hinv4
                         exact hinv4
                       · first | omega | (dsimp only; omega)
                       · refine ⟨?_, ?_, ?_, ?_, ?_, ?_⟩ <;> (simp [subE, lk, AV.low, C.low, LB.low, Problem.ds, TagRule.ds, Fld.ds, Sub.ds, Rec.ds] <;> fail))
              · try simp only [decide_eq_true_eq, decide_eq_false_iff_not, Bool.not_eq_true', Bool.not_eq_false', Int.not_lt, Int.not_le, ne_eq, Decidable.not_not, bne_iff_ne, beq_iff_eq, Bool.and_eq_true, Bool.or_eq_true, Bool.and_eq_false_iff, Bool.or_eq_false_iff, Bool.not_not, Ax.u8eq] at hg175
                simp only [del, ↓reduceIte, Nat.reduceEqDiff]
                refine AXl.skip_guard (by decide : (171:Nat) < 183) rfl (by kernel_rfl) ?_
                refine AXl.skip_guard (by decide : (172:Nat) < 183) rfl (by kernel_rfl) ?_
                refine AXl.skip_guard (by decide : (173:Nat) < 183) rfl (by kernel_rfl) ?_
                refine AXl.qt rfl (by decide : (174:Nat) < 183) (Still.qt (s_pick_f _ _ _ rfl)) ?_
                refine AXl.nm_e0 ?_
                refine AXl.nil ?_
                refine hK174 _ ?_
                clear hK174 K174
                refine Ethen.n ?_
                refine hK173 _ ?_
                clear hK173 K173
                refine AXc.cond_f rfl ?_
                refine AXc.skip ?_
                refine EinBlock.n ?_
                refine Ethen.n ?_
                refine hK28 _ ?_
                clear hK28 K28
                refine AXc.region' fun K180 hK180 => ?_
                refine AXl.qt rfl (by decide : (53:Nat) < 183) (Still.qt (s_move _)) ?_
                refine AXl.qt rfl (by decide : (54:Nat) < 183) (Still.qt (s_iar _ _ _ _ _ rfl rfl rfl (IntWalk.i64_in _ ⟨(by first | omega | (simp only [List.length_map, List.length_cons, List.length_nil, List.length_append, List.length_take, List.length_drop]; omega)), (by first | omega | (simp only [List.length_map, List.length_cons, List.length_nil, List.length_append, List.length_take, List.length_drop]; omega))⟩))) ?_
                refine AXl.qt rfl (by decide : (7:Nat) < 183) (Still.qt (s_assign _)) ?_
                refine AXl.nm_e0 ?_
                refine AXl.nil ?_
                refine hK180 _ ?_
                clear hK180 K180
                refine Ethen.n ?_
                clear hK21 K21
                first
                  | (refine ⟨(k + 1, ver + 1, out ++ [⟨2, k, r.fields[k].tag, 0⟩]), ?_⟩
                     refine ⟨⟨?_, ?_⟩, ?_, ?_⟩
                     · omega
                     · rw [flds_next l r.fields hk] at hinv; unfold oneP at hinv
                       simp only [hc11, hc27, hc36, hg43, hc142, hc165, hg175, Bool.true_and, Bool.and_true, Bool.not_true, Bool.not_false, Bool.false_and, Bool.and_false, Bool.and_self, if_true, if_false, ↓reduceIte, Bool.false_eq_true, List.nil_append, List.append_assoc] at hinv ⊢
                       exact hinv
                     · first | omega | (dsimp only; omega)
                     · refine ⟨?_, ?_, ?_, ?_, ?_, ?_⟩ <;> (simp [subE, lk, AV.low, C.low, LB.low, Problem.ds, TagRule.ds, Fld.ds, Sub.ds, Rec.ds] <;> fail))
                  | (refine ⟨(k + 1, ver4 + 1, out4 ++ [⟨7, k, r.fields[k].tag, 0⟩]), ?_⟩
                     refine ⟨⟨?_, ?_⟩, ?_, ?_⟩
                     · omega
                     · rw [drop_end (by omega), needP, List.nil_append, authP] at hinv4
                       have hcd : (r.fields[k].auth ≠ 0 ∧ (getR l r.fields[k].tag).auth = 0) = True := by simp only [hc11, hc27, hc36, hg43, hc142, hc165, hg175, ne_eq, not_false_eq_true, and_self, and_true, true_and]
                       simp only [hcd, if_true] at hinv4
                       rw [List.append_assoc]; exact hinv4
                     · first | omega | (dsimp only; omega)
                     · refine ⟨?_, ?_, ?_, ?_, ?_, ?_⟩ <;> (simp [subE, lk, AV.low, C.low, LB.low, Problem.ds, TagRule.ds, Fld.ds, Sub.ds, Rec.ds] <;> fail))
                  | (refine ⟨(k + 1, ver4, out4), ?_⟩
                     refine ⟨⟨?_, ?_⟩, ?_, ?_⟩
                     · omega
                     · rw [drop_end (by omega), needP, List.nil_append, authP] at hinv4
                       have hcd : (r.fields[k].auth ≠ 0 ∧ (getR l r.fields[k].tag).auth = 0) = False := by simp only [hc11, hc27, hc36, hg43, hc142, hc165, hg175, ne_eq, not_false_eq_true, not_true_eq_false, and_false, false_and, and_self]
                       simp only [hcd, if_false, List.nil_append] at hinv4
                       exact hinv4
                     · first | omega | (dsimp only; omega)
                     · refine ⟨?_, ?_, ?_, ?_, ?_, ?_⟩ <;> (simp [subE, lk, AV.low, C.low, LB.low, Problem.ds, TagRule.ds, Fld.ds, Sub.ds, Rec.ds] <;> fail))
    · try simp only [decide_eq_true_eq, decide_eq_false_iff_not, Bool.not_eq_true', Bool.not_eq_false', Int.not_lt, Int.not_le, ne_eq, Decidable.not_not, bne_iff_ne, beq_iff_eq, Bool.and_eq_true, Bool.or_eq_true, Bool.and_eq_false_iff, Bool.or_eq_false_iff, Bool.not_not, Ax.u8eq] at hc27
      refine AXc.exit ?_
      refine Ethen.e ?_
      clear hK24 K24
      refine Ethen.e ?_
      refine EinBlock.hit ?_
      refine Ethen.n ?_
      refine hK21 _ ?_
      clear hK21 K21
      refine AXc.seq fun K181 hK181 => ?_
      refine AXc.region' fun K182 hK182 => ?_
      refine AXl.qt rfl (by decide : (182:Nat) < 183) (Still.qt (s_move _)) ?_
      refine AXl.qt rfl (by decide : (4:Nat) < 183) (Still.qt (s_assign _)) ?_
      refine AXl.nm_e0 ?_
      refine AXl.nil ?_
      refine hK182 _ ?_
      clear hK182 K182
      refine Ethen.n ?_
      refine hK181 _ ?_
      clear hK181 K181
      refine AXc.ret ?_
      first
        | refine Fin.ret rfl (rvsOf_own rfl) ?_
        | refine Fin.ret rfl rfl ?_
      rw [drop_end (by omega), fldsP, List.append_nil] at hinv
      rw [hinv]; rfl
end Go.Proofs
