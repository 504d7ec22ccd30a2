/- Part of a proof about this program; no condition of its own. -/
import Derived.Test.YtjaooadhjmlhnaaDoorRWc
import Derived.Test.YtjaooadhjmlhnaaDoorProg
set_option linter.all false
namespace Go.Proofs
open Go Go.Ax Go.Rl
theorem slT_22_d : slT Tryd.prog 22 = some (29, 7) := by kernel_rfl
theorem ldT_29_d : ldT Tryd.prog 29 = some (some 7) := by kernel_rfl
theorem zC_29_d : zeroC Tryd.prog 29 = some [.d (.str []), .d (.bool false), .d (.bool false), .d (.str []), .d (.str []), .d (.str []), .d (.int .i64 0)] := by kernel_rfl
theorem sz_29_d : (Tryd.prog.info? 29).map (·.size) = some 7 := by kernel_rfl
theorem fdT_29_2_d : fdT Tryd.prog 29 2 = some 2 := by kernel_rfl
theorem ldT_4_d : ldT Tryd.prog 4 = some none := by kernel_rfl
theorem fdT_27_4_d : fdT Tryd.prog 27 4 = some 4 := by kernel_rfl
theorem ldT_25_d : ldT Tryd.prog 25 = some none := by kernel_rfl
theorem fdT_29_0_d : fdT Tryd.prog 29 0 = some 0 := by kernel_rfl
theorem ldT_9_d : ldT Tryd.prog 9 = some none := by kernel_rfl
theorem plT_41_d : plT Tryd.prog 41 = some [(0, 1), (1, 1), (2, 1), (3, 1)] := by kernel_rfl
theorem zC_41_d : zeroC Tryd.prog 41 = some [.d (.int .i64 0), .d (.int .i64 0), .d (.str []), .d (.int .u8 0)] := by kernel_rfl
theorem apT_35_d : apT Tryd.prog 35 = some (41, 4, 40) := by kernel_rfl
theorem slT_25_d : slT Tryd.prog 25 = some (45, 4) := by kernel_rfl
theorem ldT_45_d : ldT Tryd.prog 45 = some (some 4) := by kernel_rfl
theorem zC_45_d : zeroC Tryd.prog 45 = some [.d (.str []), .d (.str []), .d (.raw (.slice none 0 0)), .d (.int .i64 0)] := by kernel_rfl
theorem sz_45_d : (Tryd.prog.info? 45).map (·.size) = some 4 := by kernel_rfl
theorem fdT_45_0_d : fdT Tryd.prog 45 0 = some 0 := by kernel_rfl
theorem mixed_d : Tryd.prog.follows .mixedOrders = true := by kernel_rfl
theorem fdT_29_1_d : fdT Tryd.prog 29 1 = some 1 := by kernel_rfl
theorem ldT_27_d : ldT Tryd.prog 27 = some (some 5) := by kernel_rfl
theorem AXl.nm_d0 {P : Program} {pm : Pm} {ops : Array Oper} {rest : List Oper} {st st' : St} {K : St → Prop} (hk : AXl P pm ops rest st' K) (he : st = st' := by first | (simp only [St.put, putE, U, del, lk, ev, cAV, lkG, rsAV, rvAV, ↓reduceIte, Nat.reduceEqDiff, Nat.reduceAdd, Nat.reduceMul, List.length_map, List.length_cons, List.length_nil, List.getElem_map, Int.toNat_natCast, List.cons_append, List.nil_append, List.set_cons_zero, List.set_cons_succ, splice, List.take_succ_cons, List.take_zero, List.drop_succ_cons, List.drop_zero, Nat.zero_add, Nat.add_zero, List.map_cons, List.map_nil, List.take_nil, List.drop_nil, List.append_nil, Problem.ds, TagRule.ds, Fld.ds, Sub.ds, Rec.ds, indexByte_any, indexByte_any', ← List.map_take, Nat.sub_zero]; done) | (simp only [St.put, putE, U, del, lk, ev, cAV, lkG, rsAV, rvAV, ↓reduceIte, Nat.reduceEqDiff, Nat.reduceAdd, Nat.reduceMul, List.length_map, List.length_cons, List.length_nil, List.getElem_map, Int.toNat_natCast, List.cons_append, List.nil_append, List.set_cons_zero, List.set_cons_succ, splice, List.take_succ_cons, List.take_zero, List.drop_succ_cons, List.drop_zero, Nat.zero_add, Nat.add_zero, List.map_cons, List.map_nil, List.take_nil, List.drop_nil, List.append_nil, Problem.ds, TagRule.ds, Fld.ds, Sub.ds, Rec.ds, indexByte_any, indexByte_any', ← List.map_take, Nat.sub_zero]; rfl) | rfl) : AXl P pm ops rest st K := he ▸ hk
theorem AXd.nm_d0 {P : Program} {pm : Pm} {h : List LB} {ops : Array Oper} {pre : List Oper} {ρ ρ' : List (Nat × AV)} {Kd : List (Nat × AV) → Prop} (hk : AXd P pm h ops pre ρ' Kd) (he : ρ = ρ' := by first | (simp only [St.put, putE, U, del, lk, ev, cAV, lkG, rsAV, rvAV, ↓reduceIte, Nat.reduceEqDiff, Nat.reduceAdd, Nat.reduceMul, List.length_map, List.length_cons, List.length_nil, List.getElem_map, Int.toNat_natCast, List.cons_append, List.nil_append, List.set_cons_zero, List.set_cons_succ, splice, List.take_succ_cons, List.take_zero, List.drop_succ_cons, List.drop_zero, Nat.zero_add, Nat.add_zero, List.map_cons, List.map_nil, List.take_nil, List.drop_nil, List.append_nil, Problem.ds, TagRule.ds, Fld.ds, Sub.ds, Rec.ds, indexByte_any, indexByte_any', ← List.map_take, Nat.sub_zero]; done) | (simp only [St.put, putE, U, del, lk, ev, cAV, lkG, rsAV, rvAV, ↓reduceIte, Nat.reduceEqDiff, Nat.reduceAdd, Nat.reduceMul, List.length_map, List.length_cons, List.length_nil, List.getElem_map, Int.toNat_natCast, List.cons_append, List.nil_append, List.set_cons_zero, List.set_cons_succ, splice, List.take_succ_cons, List.take_zero, List.drop_succ_cons, List.drop_zero, Nat.zero_add, Nat.add_zero, List.map_cons, List.map_nil, List.take_nil, List.drop_nil, List.append_nil, Problem.ds, TagRule.ds, Fld.ds, Sub.ds, Rec.ds, indexByte_any, indexByte_any', ← List.map_take, Nat.sub_zero]; rfl) | rfl) : AXd P pm h ops pre ρ Kd := he ▸ hk
theorem AXl.nm_d1 {P : Program} {pm : Pm} {ops : Array Oper} {rest : List Oper} {st st' : St} {K : St → Prop} (hk : AXl P pm ops rest st' K) (he : st = st' := by first | (simp only [St.put, putE, U, del, lk, ev, cAV, lkG, rsAV, rvAV, ↓reduceIte, Nat.reduceEqDiff, Nat.reduceAdd, Nat.reduceMul, List.length_map, List.length_cons, List.length_nil, List.getElem_map, Int.toNat_natCast, List.cons_append, List.nil_append, List.set_cons_zero, List.set_cons_succ, splice, List.take_succ_cons, List.take_zero, List.drop_succ_cons, List.drop_zero, Nat.zero_add, Nat.add_zero, List.map_cons, List.map_nil, List.take_nil, List.drop_nil, List.append_nil, Problem.ds, TagRule.ds, Fld.ds, Sub.ds, Rec.ds]; done) | (simp only [St.put, putE, U, del, lk, ev, cAV, lkG, rsAV, rvAV, ↓reduceIte, Nat.reduceEqDiff, Nat.reduceAdd, Nat.reduceMul, List.length_map, List.length_cons, List.length_nil, List.getElem_map, Int.toNat_natCast, List.cons_append, List.nil_append, List.set_cons_zero, List.set_cons_succ, splice, List.take_succ_cons, List.take_zero, List.drop_succ_cons, List.drop_zero, Nat.zero_add, Nat.add_zero, List.map_cons, List.map_nil, List.take_nil, List.drop_nil, List.append_nil, Problem.ds, TagRule.ds, Fld.ds, Sub.ds, Rec.ds]; rfl) | rfl) : AXl P pm ops rest st K := he ▸ hk
theorem AXd.nm_d1 {P : Program} {pm : Pm} {h : List LB} {ops : Array Oper} {pre : List Oper} {ρ ρ' : List (Nat × AV)} {Kd : List (Nat × AV) → Prop} (hk : AXd P pm h ops pre ρ' Kd) (he : ρ = ρ' := by first | (simp only [St.put, putE, U, del, lk, ev, cAV, lkG, rsAV, rvAV, ↓reduceIte, Nat.reduceEqDiff, Nat.reduceAdd, Nat.reduceMul, List.length_map, List.length_cons, List.length_nil, List.getElem_map, Int.toNat_natCast, List.cons_append, List.nil_append, List.set_cons_zero, List.set_cons_succ, splice, List.take_succ_cons, List.take_zero, List.drop_succ_cons, List.drop_zero, Nat.zero_add, Nat.add_zero, List.map_cons, List.map_nil, List.take_nil, List.drop_nil, List.append_nil, Problem.ds, TagRule.ds, Fld.ds, Sub.ds, Rec.ds]; done) | (simp only [St.put, putE, U, del, lk, ev, cAV, lkG, rsAV, rvAV, ↓reduceIte, Nat.reduceEqDiff, Nat.reduceAdd, Nat.reduceMul, List.length_map, List.length_cons, List.length_nil, List.getElem_map, Int.toNat_natCast, List.cons_append, List.nil_append, List.set_cons_zero, List.set_cons_succ, splice, List.take_succ_cons, List.take_zero, List.drop_succ_cons, List.drop_zero, Nat.zero_add, Nat.add_zero, List.map_cons, List.map_nil, List.take_nil, List.drop_nil, List.append_nil, Problem.ds, TagRule.ds, Fld.ds, Sub.ds, Rec.ds]; rfl) | rfl) : AXd P pm h ops pre ρ Kd := he ▸ hk
set_option maxHeartbeats 1600000 in
/-- The contract of library rules.Check. -/
theorem c15 {Γ : List (Nat × List D)} (l : List TagRule) (r : Rec) (hl : OkL l) (hf : OkS r.fields) : AFn Tryd.prog Γ 15 [.c (.d (.lst 7 (l.map TagRule.ds))), .agg (r.ds.map C.d)] [.fresh 41 4 ((chkP l r.fields).map Problem.ds)] := by
  have hl60 := hl.len
  have hf64 := hf.len
  have hlen := chkP_len hl hf
  have hlen1 : (mustP r.fields l).length + (fldsP l [] r.fields).length = (chkP l r.fields).length := by rw [chkP, List.length_append]
  refine AFn.of_body1 (n := 86) (r := .tmp 4) 1 Tryd.func15 (by kernel_rfl) rfl Tryd.ntmps15 (by rw [Tryd.results15]) (by simp) ?_
  simp only [envOf, Nat.reduceAdd]
  refine AXc.seq fun K1 hK1 => ?_
  refine AXc.region' fun K2 hK2 => ?_
  refine AXl.box rfl (by decide : (3:Nat) < 86) ?_
  refine AXl.qt rfl (by decide : (4:Nat) < 86) (Still.qt (s_assign _)) ?_
  refine AXl.nm_d0 ?_
  refine AXl.nil ?_
  refine hK2 _ ?_
  clear hK2 K2
  refine Ethen.n ?_
  refine hK1 _ ?_
  clear hK1 K1
  refine AXc.seq fun K3 hK3 => ?_
  refine AXc.region' fun K4 hK4 => ?_
  refine AXl.qt rfl (by decide : (5:Nat) < 86) (Still.qt (s_assign _)) ?_
  refine AXl.nm_d0 ?_
  refine AXl.nil ?_
  refine hK4 _ ?_
  clear hK4 K4
  refine Ethen.n ?_
  refine hK3 _ ?_
  clear hK3 K3
  refine AXc.seq fun K5 hK5 => ?_
  refine AXc.seq fun K6 hK6 => ?_
  refine AXc.region' fun K7 hK7 => ?_
  refine AXl.qt rfl (by decide : (12:Nat) < 86) (Still.qt (s_move _)) ?_
  first
    | refine AXl.qt rfl (by decide : (13:Nat) < 86) (Still.qt (s_len _ _ Tryd.underlying22 rfl)) ?_
    | refine AXl.qt rfl (by decide : (13:Nat) < 86) (Still.qt (s_len_nil _ _ Tryd.underlying22 rfl)) ?_
  refine AXl.qt rfl (by decide : (14:Nat) < 86) (Still.qt (s_move _)) ?_
  refine AXl.nm_d0 ?_
  refine AXl.nil ?_
  refine hK7 _ ?_
  clear hK7 K7
  refine Ethen.n ?_
  refine hK6 _ ?_
  clear hK6 K6
  refine AXc.block ?_
  refine AXc.nilrow 5 41 4 rfl ?_
  simp only [St.put, putE, U, del, lk, ev, cAV, lkG, rsAV, rvAV, ↓reduceIte, Nat.reduceEqDiff, Nat.reduceAdd, Nat.reduceMul, List.length_map, List.length_cons, List.length_nil, List.getElem_map, Int.toNat_natCast, List.cons_append, List.nil_append, List.set_cons_zero, List.set_cons_succ, splice, List.take_succ_cons, List.take_zero, List.drop_succ_cons, List.drop_zero, Nat.zero_add, Nat.add_zero, List.map_cons, List.map_nil, List.take_nil, List.drop_nil, List.append_nil]
  refine AXc.loop (S := Nat × Nat × List Problem) (fun ⟨k, ver, out⟩ => ⟨[(0, .c (.d (.lst 7 (l.map TagRule.ds)))), (3, .c (.loc 0 0)), (5, .c (.own 1 ver)), (12, .c (.d (.lst 7 (l.map TagRule.ds)))), (13, .c (.d (.int .i64 l.length))), (14, .c (.d (.int .i64 k)))], [.box 27 (r.ds.map C.d), .row 41 4 (out.map Problem.ds) ver]⟩) (fun ⟨k, ver, out⟩ => k ≤ l.length ∧ out ++ mustP r.fields (l.drop k) = mustP r.fields l) (fun ⟨k, ver, out⟩ => l.length - k) (0, 0, []) ⟨by omega, by simp⟩ (by refine ⟨?_, ?_, ?_, ?_, ?_, ?_⟩ <;> (simp [subE, lk, AV.low, C.low, LB.low, Problem.ds, TagRule.ds, Fld.ds, Sub.ds, Rec.ds] <;> fail)) ?_
  rintro ⟨k, ver, out⟩ ⟨hk0, hinv⟩
  have hb := congrArg List.length hinv; rw [List.length_append] at hb
  try simp only [Problem.ds, TagRule.ds, Fld.ds, Sub.ds, Rec.ds, indexByte_any, indexByte_any', ← List.map_take, Nat.sub_zero, List.map_cons, List.map_nil]
  refine AXc.seq fun K8 hK8 => ?_
  refine AXc.region' fun K9 hK9 => ?_
  refine AXl.qt rfl (by decide : (15:Nat) < 86) (Still.qt (s_icmp _ _ _ _ _ rfl rfl rfl)) ?_
  refine AXl.nm_d0 ?_
  refine AXl.nil ?_
  refine hK9 _ ?_
  clear hK9 K9
  refine Ethen.n ?_
  refine hK8 _ ?_
  clear hK8 K8
  refine AXc.seq fun K10 hK10 => ?_
  refine AXc.cond rfl (fun hc11 => ?_) (fun hc11 => ?_)
  · try simp only [decide_eq_true_eq, decide_eq_false_iff_not, Bool.not_eq_true', Bool.not_eq_false', Int.not_lt, Int.not_le, ne_eq, Decidable.not_not, bne_iff_ne, beq_iff_eq, Bool.and_eq_true, Bool.or_eq_true, Bool.and_eq_false_iff, Bool.or_eq_false_iff, Bool.not_not, Ax.u8eq] at hc11
    have hk : k < l.length := by omega
    refine AXc.skip ?_
    refine Ethen.n ?_
    refine hK10 _ ?_
    clear hK10 K10
    refine AXc.seq fun K12 hK12 => ?_
    refine AXc.block ?_
    refine AXc.seq fun K13 hK13 => ?_
    refine AXc.region' fun K14 hK14 => ?_
    first
      | refine AXl.qt rfl (by decide : (16:Nat) < 86) (Still.qt (s_index _ _ _ slT_22_d (.inl rfl) rfl rfl (by first | omega | (simp only [List.length_map, List.length_cons, List.length_nil, List.length_append, List.length_take, List.length_drop]; omega)) (List.getElem?_eq_getElem (by first | omega | (simp only [List.length_map, List.length_cons, List.length_nil, List.length_append, List.length_take, List.length_drop]; omega))))) ?_
      | refine AXl.qt rfl (by decide : (16:Nat) < 86) (Still.qt (s_index _ _ _ slT_22_d (.inr rfl) rfl rfl (by first | omega | (simp only [List.length_map, List.length_cons, List.length_nil, List.length_append, List.length_take, List.length_drop]; omega)) (List.getElem?_eq_getElem (by first | omega | (simp only [List.length_map, List.length_cons, List.length_nil, List.length_append, List.length_take, List.length_drop]; omega))))) ?_
      | refine AXl.qt rfl (by decide : (16:Nat) < 86) (Still.qt (s_index_own _ _ _ slT_22_d rfl rfl rfl rfl (by first | omega | (simp only [List.length_map, List.length_cons, List.length_nil, List.length_append, List.length_take, List.length_drop]; omega)) (by first | omega | (simp only [List.length_map, List.length_cons, List.length_nil, List.length_append, List.length_take, List.length_drop]; omega)))) ?_
    refine AXl.nm_d0 ?_
    first
      | refine AXl.qt rfl (by decide : (17:Nat) < 86) (Still.qt (s_loadN _ _ ldT_29_d rfl (by simp [Problem.ds, TagRule.ds, Fld.ds, Sub.ds, Rec.ds]))) ?_
      | refine AXl.qt rfl (by decide : (17:Nat) < 86) (Still.qt (s_loadN_row _ _ ldT_29_d rfl rfl (by first | rfl | exact List.getElem?_eq_getElem (by omega)) (by simp [Problem.ds, TagRule.ds, Fld.ds, Sub.ds, Rec.ds]))) ?_
    refine AXl.alloc zC_29_d (by decide : (7:Nat) < 86) ?_
    refine AXl.nm_d0 ?_
    first
      | refine AXl.store rfl rfl rfl sz_29_d (by simp [Problem.ds, TagRule.ds, Fld.ds, Sub.ds, Rec.ds]) rfl ?_
      | refine AXl.store_row rfl rfl (by first | rfl | exact List.getElem?_eq_getElem (by omega)) rfl sz_29_d (by simp [Problem.ds, TagRule.ds, Fld.ds, Sub.ds, Rec.ds]) rfl ?_
    refine AXl.nm_d0 ?_
    refine AXl.nil ?_
    refine hK14 _ ?_
    clear hK14 K14
    refine Ethen.n ?_
    refine hK13 _ ?_
    clear hK13 K13
    refine AXc.seq fun K15 hK15 => ?_
    refine AXc.region' fun K16 hK16 => ?_
    first
      | refine AXl.qt rfl (by decide : (18:Nat) < 86) (Still.qt (s_field_loc _ _ _ fdT_29_2_d rfl)) ?_
      | refine AXl.qt rfl (by decide : (18:Nat) < 86) (Still.qt (s_field_ptr _ _ _ fdT_29_2_d rfl)) ?_
      | refine AXl.qt rfl (by decide : (18:Nat) < 86) (Still.qt (s_field_row _ _ _ fdT_29_2_d rfl rfl)) ?_
    first
      | refine AXl.qt rfl (by decide : (19:Nat) < 86) (Still.qt (s_load1 _ _ ldT_4_d rfl)) ?_
      | refine AXl.qt rfl (by decide : (19:Nat) < 86) (Still.qt (s_load1_row _ _ ldT_4_d rfl rfl (by first | rfl | exact List.getElem?_eq_getElem (by omega)) rfl)) ?_
    refine AXl.qt rfl (by decide : (20:Nat) < 86) (Still.qt (s_move _)) ?_
    refine AXl.nm_d0 ?_
    refine AXl.split 20 _ rfl (fun hg17 => ?_) (fun hg17 => ?_)
    · try simp only [decide_eq_true_eq, decide_eq_false_iff_not, Bool.not_eq_true', Bool.not_eq_false', Int.not_lt, Int.not_le, ne_eq, Decidable.not_not, bne_iff_ne, beq_iff_eq, Bool.and_eq_true, Bool.or_eq_true, Bool.and_eq_false_iff, Bool.or_eq_false_iff, Bool.not_not, Ax.u8eq] at hg17
      simp only [del, ↓reduceIte, Nat.reduceEqDiff]
      first
        | refine AXl.qt_guard (by decide : (21:Nat) < 86) rfl (by kernel_rfl) (Still.qt (s_field_loc _ _ _ fdT_27_4_d rfl)) ?_
        | refine AXl.qt_guard (by decide : (21:Nat) < 86) rfl (by kernel_rfl) (Still.qt (s_field_ptr _ _ _ fdT_27_4_d rfl)) ?_
        | refine AXl.qt_guard (by decide : (21:Nat) < 86) rfl (by kernel_rfl) (Still.qt (s_field_row _ _ _ fdT_27_4_d rfl rfl)) ?_
      first
        | refine AXl.qt_guard (by decide : (22:Nat) < 86) rfl (by kernel_rfl) (Still.qt (s_load1 _ _ ldT_25_d rfl)) ?_
        | refine AXl.qt_guard (by decide : (22:Nat) < 86) rfl (by kernel_rfl) (Still.qt (s_load1_row _ _ ldT_25_d rfl rfl (by first | rfl | exact List.getElem?_eq_getElem (by omega)) rfl)) ?_
      first
        | refine AXl.qt_guard (by decide : (23:Nat) < 86) rfl (by kernel_rfl) (Still.qt (s_field_loc _ _ _ fdT_29_0_d rfl)) ?_
        | refine AXl.qt_guard (by decide : (23:Nat) < 86) rfl (by kernel_rfl) (Still.qt (s_field_ptr _ _ _ fdT_29_0_d rfl)) ?_
        | refine AXl.qt_guard (by decide : (23:Nat) < 86) rfl (by kernel_rfl) (Still.qt (s_field_row _ _ _ fdT_29_0_d rfl rfl)) ?_
      first
        | refine AXl.qt_guard (by decide : (24:Nat) < 86) rfl (by kernel_rfl) (Still.qt (s_load1 _ _ ldT_9_d rfl)) ?_
        | refine AXl.qt_guard (by decide : (24:Nat) < 86) rfl (by kernel_rfl) (Still.qt (s_load1_row _ _ ldT_9_d rfl rfl (by first | rfl | exact List.getElem?_eq_getElem (by omega)) rfl)) ?_
      refine AXl.nm_d0 ?_
      refine AXl.qt_guard (by decide : (25:Nat) < 86) rfl (by kernel_rfl) (q_call (c30 _ _ ?hs) (.cons (by first | exact ArgOk.d | exact ArgOk.bor rfl | exact ArgOk.agg rfl | exact ArgOk.agg (toDs_map _) | exact ArgOk.nil_bor | exact ArgOk.nil_lst | exact ArgOk.fn | exact ArgOk.ptr rfl rfl | exact ArgOk.aggn rfl (by repeat first | exact .nil | refine .cons (.refl _) ?_ | refine .cons (.nil _) ?_)) (.cons (by first | exact ArgOk.d | exact ArgOk.bor rfl | exact ArgOk.agg rfl | exact ArgOk.agg (toDs_map _) | exact ArgOk.nil_bor | exact ArgOk.nil_lst | exact ArgOk.fn | exact ArgOk.ptr rfl rfl | exact ArgOk.aggn rfl (by repeat first | exact .nil | refine .cons (.refl _) ?_ | refine .cons (.nil _) ?_)) .nil))) ?_
      case hs => first | omega | (rw [List.length_take]; omega)
      refine AXl.qt_guard (by decide : (26:Nat) < 86) rfl (by kernel_rfl) (Still.qt (s_not _ _ rfl)) ?_
      refine AXl.qt rfl (by decide : (27:Nat) < 86) (Still.qt (s_pick_t _ _ _ rfl)) ?_
      refine AXl.nm_d0 ?_
      refine AXl.nil ?_
      refine hK16 _ ?_
      clear hK16 K16
      refine Ethen.n ?_
      refine hK15 _ ?_
      clear hK15 K15
      refine AXc.cond rfl (fun hc18 => ?_) (fun hc18 => ?_)
      · try simp only [decide_eq_true_eq, decide_eq_false_iff_not, Bool.not_eq_true', Bool.not_eq_false', Int.not_lt, Int.not_le, ne_eq, Decidable.not_not, bne_iff_ne, beq_iff_eq, Bool.and_eq_true, Bool.or_eq_true, Bool.and_eq_false_iff, Bool.or_eq_false_iff, Bool.not_not, Ax.u8eq] at hc18
        refine AXc.region' fun K19 hK19 => ?_
        refine AXl.qt rfl (by decide : (28:Nat) < 86) (Still.qt (s_move _)) ?_
        first
          | refine AXl.qt rfl (by decide : (29:Nat) < 86) (Still.qt (s_field_loc _ _ _ fdT_29_0_d rfl)) ?_
          | refine AXl.qt rfl (by decide : (29:Nat) < 86) (Still.qt (s_field_ptr _ _ _ fdT_29_0_d rfl)) ?_
          | refine AXl.qt rfl (by decide : (29:Nat) < 86) (Still.qt (s_field_row _ _ _ fdT_29_0_d rfl rfl)) ?_
        first
          | refine AXl.qt rfl (by decide : (30:Nat) < 86) (Still.qt (s_load1 _ _ ldT_9_d rfl)) ?_
          | refine AXl.qt rfl (by decide : (30:Nat) < 86) (Still.qt (s_load1_row _ _ ldT_9_d rfl rfl (by first | rfl | exact List.getElem?_eq_getElem (by omega)) rfl)) ?_
        refine AXl.nm_d0 ?_
        refine AXl.qt rfl (by decide : (31:Nat) < 86) (Still.qt (s_build _ _ plT_41_d zC_41_d rfl)) ?_
        refine AXl.qt rfl (by decide : (32:Nat) < 86) (q_buildSlice _ _ _ apT_35_d rfl rfl (by decide)) ?_
        first
          | refine AXl.append apT_35_d rfl rfl rfl (by simp only [List.length_append, List.length_map, List.length_cons, List.length_nil]; omega) (by simp only [List.length_append, List.length_map, List.length_cons, List.length_nil]; omega) (by decide : (33:Nat) < 86) ?_
          | refine AXl.append_nil apT_35_d rfl (by decide) rfl (by simp only [List.length_append, List.length_map, List.length_cons, List.length_nil]; omega) (by simp only [List.length_append, List.length_map, List.length_cons, List.length_nil]; omega) (by decide : (33:Nat) < 86) ?_
        refine AXl.qt rfl (by decide : (5:Nat) < 86) (Still.qt (s_assign _)) ?_
        refine AXl.nm_d0 ?_
        refine AXl.nil ?_
        refine hK19 _ ?_
        clear hK19 K19
        refine EinBlock.n ?_
        refine Ethen.n ?_
        refine hK12 _ ?_
        clear hK12 K12
        refine AXc.region' fun K20 hK20 => ?_
        refine AXl.qt rfl (by decide : (34:Nat) < 86) (Still.qt (s_iar _ _ _ _ _ rfl rfl rfl (IntWalk.i64_in _ ⟨(by first | omega | (simp only [List.length_map, List.length_cons, List.length_nil, List.length_append, List.length_take, List.length_drop]; omega)), (by first | omega | (simp only [List.length_map, List.length_cons, List.length_nil, List.length_append, List.length_take, List.length_drop]; omega))⟩))) ?_
        refine AXl.qt rfl (by decide : (14:Nat) < 86) (Still.qt (s_move _)) ?_
        refine AXl.nm_d0 ?_
        refine AXl.nil ?_
        refine hK20 _ ?_
        clear hK20 K20
        refine Ethen.n ?_
        clear hK5 K5
        rw [must_next r.fields l hk] at hinv
        first
          | (refine ⟨(k + 1, ver + 1, out ++ [⟨1, -1, l[k].tag, 0⟩]), ⟨by omega, ?_⟩, by first | omega | (dsimp only; omega), (by refine ⟨?_, ?_, ?_, ?_, ?_, ?_⟩ <;> (simp [subE, lk, AV.low, C.low, LB.low, Problem.ds, TagRule.ds, Fld.ds, Sub.ds, Rec.ds] <;> fail))⟩
             simp only [hc11, hg17, hc18, Bool.true_and, Bool.and_true, Bool.not_true, Bool.not_false, Bool.false_and, Bool.and_false, Bool.and_self, if_true, if_false, ↓reduceIte, Bool.false_eq_true, List.nil_append, List.append_assoc] at hinv ⊢
             first | exact hinv | simpa using hinv)
          | (refine ⟨(k + 1, ver, out), ⟨by omega, ?_⟩, by first | omega | (dsimp only; omega), (by refine ⟨?_, ?_, ?_, ?_, ?_, ?_⟩ <;> (simp [subE, lk, AV.low, C.low, LB.low, Problem.ds, TagRule.ds, Fld.ds, Sub.ds, Rec.ds] <;> fail))⟩
             simp only [hc11, hg17, hc18, Bool.true_and, Bool.and_true, Bool.not_true, Bool.not_false, Bool.false_and, Bool.and_false, Bool.and_self, if_true, if_false, ↓reduceIte, Bool.false_eq_true, List.nil_append, List.append_assoc] at hinv ⊢
             first | exact hinv | simpa using hinv)
      · try simp only [decide_eq_true_eq, decide_eq_false_iff_not, Bool.not_eq_true', Bool.not_eq_false', Int.not_lt, Int.not_le, ne_eq, Decidable.not_not, bne_iff_ne, beq_iff_eq, Bool.and_eq_true, Bool.or_eq_true, Bool.and_eq_false_iff, Bool.or_eq_false_iff, Bool.not_not, Ax.u8eq] at hc18
        refine AXc.skip ?_
        refine EinBlock.n ?_
        refine Ethen.n ?_
        refine hK12 _ ?_
        clear hK12 K12
        refine AXc.region' fun K21 hK21 => ?_
        refine AXl.qt rfl (by decide : (34:Nat) < 86) (Still.qt (s_iar _ _ _ _ _ rfl rfl rfl (IntWalk.i64_in _ ⟨(by first | omega | (simp only [List.length_map, List.length_cons, List.length_nil, List.length_append, List.length_take, List.length_drop]; omega)), (by first | omega | (simp only [List.length_map, List.length_cons, List.length_nil, List.length_append, List.length_take, List.length_drop]; omega))⟩))) ?_
        refine AXl.qt rfl (by decide : (14:Nat) < 86) (Still.qt (s_move _)) ?_
        refine AXl.nm_d0 ?_
        refine AXl.nil ?_
        refine hK21 _ ?_
        clear hK21 K21
        refine Ethen.n ?_
        clear hK5 K5
        rw [must_next r.fields l hk] at hinv
        first
          | (refine ⟨(k + 1, ver + 1, out ++ [⟨1, -1, l[k].tag, 0⟩]), ⟨by omega, ?_⟩, by first | omega | (dsimp only; omega), (by refine ⟨?_, ?_, ?_, ?_, ?_, ?_⟩ <;> (simp [subE, lk, AV.low, C.low, LB.low, Problem.ds, TagRule.ds, Fld.ds, Sub.ds, Rec.ds] <;> fail))⟩
             simp only [hc11, hg17, hc18, Bool.true_and, Bool.and_true, Bool.not_true, Bool.not_false, Bool.false_and, Bool.and_false, Bool.and_self, if_true, if_false, ↓reduceIte, Bool.false_eq_true, List.nil_append, List.append_assoc] at hinv ⊢
             first | exact hinv | simpa using hinv)
          | (refine ⟨(k + 1, ver, out), ⟨by omega, ?_⟩, by first | omega | (dsimp only; omega), (by refine ⟨?_, ?_, ?_, ?_, ?_, ?_⟩ <;> (simp [subE, lk, AV.low, C.low, LB.low, Problem.ds, TagRule.ds, Fld.ds, Sub.ds, Rec.ds] <;> fail))⟩
             simp only [hc11, hg17, hc18, Bool.true_and, Bool.and_true, Bool.not_true, Bool.not_false, Bool.false_and, Bool.and_false, Bool.and_self, if_true, if_false, ↓reduceIte, Bool.false_eq_true, List.nil_append, List.append_assoc] at hinv ⊢
             first | exact hinv | simpa using hinv)
    · try simp only [decide_eq_true_eq, decide_eq_false_iff_not, Bool.not_eq_true', Bool.not_eq_false', Int.not_lt, Int.not_le, ne_eq, Decidable.not_not, bne_iff_ne, beq_iff_eq, Bool.and_eq_true, Bool.or_eq_true, Bool.and_eq_false_iff, Bool.or_eq_false_iff, Bool.not_not, Ax.u8eq] at hg17
      simp only [del, ↓reduceIte, Nat.reduceEqDiff]
      refine AXl.skip_guard (by decide : (21:Nat) < 86) rfl (by kernel_rfl) ?_
      refine AXl.skip_guard (by decide : (22:Nat) < 86) rfl (by kernel_rfl) ?_
      refine AXl.skip_guard (by decide : (23:Nat) < 86) rfl (by kernel_rfl) ?_
      refine AXl.skip_guard (by decide : (24:Nat) < 86) rfl (by kernel_rfl) ?_
      refine AXl.skip_guard (by decide : (25:Nat) < 86) rfl (by kernel_rfl) ?_
      refine AXl.skip_guard (by decide : (26:Nat) < 86) rfl (by kernel_rfl) ?_
      refine AXl.qt rfl (by decide : (27:Nat) < 86) (Still.qt (s_pick_f _ _ _ rfl)) ?_
      refine AXl.nm_d0 ?_
      refine AXl.nil ?_
      refine hK16 _ ?_
      clear hK16 K16
      refine Ethen.n ?_
      refine hK15 _ ?_
      clear hK15 K15
      refine AXc.cond_f rfl ?_
      refine AXc.skip ?_
      refine EinBlock.n ?_
      refine Ethen.n ?_
      refine hK12 _ ?_
      clear hK12 K12
      refine AXc.region' fun K22 hK22 => ?_
      refine AXl.qt rfl (by decide : (34:Nat) < 86) (Still.qt (s_iar _ _ _ _ _ rfl rfl rfl (IntWalk.i64_in _ ⟨(by first | omega | (simp only [List.length_map, List.length_cons, List.length_nil, List.length_append, List.length_take, List.length_drop]; omega)), (by first | omega | (simp only [List.length_map, List.length_cons, List.length_nil, List.length_append, List.length_take, List.length_drop]; omega))⟩))) ?_
      refine AXl.qt rfl (by decide : (14:Nat) < 86) (Still.qt (s_move _)) ?_
      refine AXl.nm_d0 ?_
      refine AXl.nil ?_
      refine hK22 _ ?_
      clear hK22 K22
      refine Ethen.n ?_
      clear hK5 K5
      rw [must_next r.fields l hk] at hinv
      first
        | (refine ⟨(k + 1, ver + 1, out ++ [⟨1, -1, l[k].tag, 0⟩]), ⟨by omega, ?_⟩, by first | omega | (dsimp only; omega), (by refine ⟨?_, ?_, ?_, ?_, ?_, ?_⟩ <;> (simp [subE, lk, AV.low, C.low, LB.low, Problem.ds, TagRule.ds, Fld.ds, Sub.ds, Rec.ds] <;> fail))⟩
           simp only [hc11, hg17, Bool.true_and, Bool.and_true, Bool.not_true, Bool.not_false, Bool.false_and, Bool.and_false, Bool.and_self, if_true, if_false, ↓reduceIte, Bool.false_eq_true, List.nil_append, List.append_assoc] at hinv ⊢
           first | exact hinv | simpa using hinv)
        | (refine ⟨(k + 1, ver, out), ⟨by omega, ?_⟩, by first | omega | (dsimp only; omega), (by refine ⟨?_, ?_, ?_, ?_, ?_, ?_⟩ <;> (simp [subE, lk, AV.low, C.low, LB.low, Problem.ds, TagRule.ds, Fld.ds, Sub.ds, Rec.ds] <;> fail))⟩
           simp only [hc11, hg17, Bool.true_and, Bool.and_true, Bool.not_true, Bool.not_false, Bool.false_and, Bool.and_false, Bool.and_self, if_true, if_false, ↓reduceIte, Bool.false_eq_true, List.nil_append, List.append_assoc] at hinv ⊢
           first | exact hinv | simpa using hinv)
  · try simp only [decide_eq_true_eq, decide_eq_false_iff_not, Bool.not_eq_true', Bool.not_eq_false', Int.not_lt, Int.not_le, ne_eq, Decidable.not_not, bne_iff_ne, beq_iff_eq, Bool.and_eq_true, Bool.or_eq_true, Bool.and_eq_false_iff, Bool.or_eq_false_iff, Bool.not_not, Ax.u8eq] at hc11
    refine AXc.exit ?_
    refine Ethen.e ?_
    clear hK10 K10
    refine Ethen.e ?_
    refine EinBlock.hit ?_
    refine Ethen.n ?_
    refine hK5 _ ?_
    clear hK5 K5
    refine AXc.seq fun K23 hK23 => ?_
    refine AXc.seq fun K24 hK24 => ?_
    refine AXc.region' fun K25 hK25 => ?_
    first
      | refine AXl.qt rfl (by decide : (35:Nat) < 86) (Still.qt (s_field_loc _ _ _ fdT_27_4_d rfl)) ?_
      | refine AXl.qt rfl (by decide : (35:Nat) < 86) (Still.qt (s_field_ptr _ _ _ fdT_27_4_d rfl)) ?_
      | refine AXl.qt rfl (by decide : (35:Nat) < 86) (Still.qt (s_field_row _ _ _ fdT_27_4_d rfl rfl)) ?_
    first
      | refine AXl.qt rfl (by decide : (36:Nat) < 86) (Still.qt (s_load1 _ _ ldT_25_d rfl)) ?_
      | refine AXl.qt rfl (by decide : (36:Nat) < 86) (Still.qt (s_load1_row _ _ ldT_25_d rfl rfl (by first | rfl | exact List.getElem?_eq_getElem (by omega)) rfl)) ?_
    first
      | refine AXl.qt rfl (by decide : (37:Nat) < 86) (Still.qt (s_len _ _ Tryd.underlying25 rfl)) ?_
      | refine AXl.qt rfl (by decide : (37:Nat) < 86) (Still.qt (s_len_nil _ _ Tryd.underlying25 rfl)) ?_
    refine AXl.qt rfl (by decide : (38:Nat) < 86) (Still.qt (s_move _)) ?_
    refine AXl.nm_d0 ?_
    refine AXl.nil ?_
    refine hK25 _ ?_
    clear hK25 K25
    refine Ethen.n ?_
    refine hK24 _ ?_
    clear hK24 K24
    refine AXc.block ?_
    refine AXc.loop (S := Nat × Nat × List Problem) (fun ⟨k, ver, out⟩ => ⟨[(0, .c (.d (.lst 7 (l.map TagRule.ds)))), (3, .c (.loc 0 0)), (5, .c (.own 1 ver)), (36, .c (.d (.lst 4 (r.fields.map Fld.ds)))), (37, .c (.d (.int .i64 r.fields.length))), (38, .c (.d (.int .i64 k)))], [.box 27 (r.ds.map C.d), .row 41 4 (out.map Problem.ds) ver]⟩) (fun ⟨k, ver, out⟩ => k ≤ r.fields.length ∧ out ++ fldsP l (r.fields.take k) (r.fields.drop k) = mustP r.fields l ++ fldsP l [] r.fields) (fun ⟨k, ver, out⟩ => r.fields.length - k) (0, ver, out) ⟨by omega, by simpa [drop_end (show ¬ k < l.length by omega), mustP] using hinv⟩ (by refine ⟨?_, ?_, ?_, ?_, ?_, ?_⟩ <;> (simp [subE, lk, AV.low, C.low, LB.low, Problem.ds, TagRule.ds, Fld.ds, Sub.ds, Rec.ds] <;> fail)) ?_
    clear hinv hb hk0
    rintro ⟨k, ver, out⟩ ⟨hk0, hinv⟩
    have hb := congrArg List.length hinv; rw [List.length_append, List.length_append] at hb
    try simp only [Problem.ds, TagRule.ds, Fld.ds, Sub.ds, Rec.ds, indexByte_any, indexByte_any', ← List.map_take, Nat.sub_zero, List.map_cons, List.map_nil]
    refine AXc.seq fun K26 hK26 => ?_
    refine AXc.region' fun K27 hK27 => ?_
    refine AXl.qt rfl (by decide : (39:Nat) < 86) (Still.qt (s_icmp _ _ _ _ _ rfl rfl rfl)) ?_
    refine AXl.nm_d0 ?_
    refine AXl.nil ?_
    refine hK27 _ ?_
    clear hK27 K27
    refine Ethen.n ?_
    refine hK26 _ ?_
    clear hK26 K26
    refine AXc.seq fun K28 hK28 => ?_
    refine AXc.cond rfl (fun hc29 => ?_) (fun hc29 => ?_)
    · try simp only [decide_eq_true_eq, decide_eq_false_iff_not, Bool.not_eq_true', Bool.not_eq_false', Int.not_lt, Int.not_le, ne_eq, Decidable.not_not, bne_iff_ne, beq_iff_eq, Bool.and_eq_true, Bool.or_eq_true, Bool.and_eq_false_iff, Bool.or_eq_false_iff, Bool.not_not, Ax.u8eq] at hc29
      have hk : k < r.fields.length := by omega
      have hokf : OkF r.fields[k] := hf.all _ (List.getElem_mem _)
      have hokr := okGet hl r.fields[k].tag
      have hfl := fieldP_len (getR l r.fields[k].tag) r.fields[k] k
      have hsb := hokf.subs
      have hnd := hokr.needs
      refine AXc.skip ?_
      refine Ethen.n ?_
      refine hK28 _ ?_
      clear hK28 K28
      refine AXc.seq fun K30 hK30 => ?_
      refine AXc.block ?_
      refine AXc.seq fun K31 hK31 => ?_
      refine AXc.region' fun K32 hK32 => ?_
      refine AXl.qt rfl (by decide : (40:Nat) < 86) (Still.qt (s_move _)) ?_
      first
        | refine AXl.qt rfl (by decide : (41:Nat) < 86) (Still.qt (s_index _ _ _ slT_25_d (.inl rfl) rfl rfl (by first | omega | (simp only [List.length_map, List.length_cons, List.length_nil, List.length_append, List.length_take, List.length_drop]; omega)) (List.getElem?_eq_getElem (by first | omega | (simp only [List.length_map, List.length_cons, List.length_nil, List.length_append, List.length_take, List.length_drop]; omega))))) ?_
        | refine AXl.qt rfl (by decide : (41:Nat) < 86) (Still.qt (s_index _ _ _ slT_25_d (.inr rfl) rfl rfl (by first | omega | (simp only [List.length_map, List.length_cons, List.length_nil, List.length_append, List.length_take, List.length_drop]; omega)) (List.getElem?_eq_getElem (by first | omega | (simp only [List.length_map, List.length_cons, List.length_nil, List.length_append, List.length_take, List.length_drop]; omega))))) ?_
        | refine AXl.qt rfl (by decide : (41:Nat) < 86) (Still.qt (s_index_own _ _ _ slT_25_d rfl rfl rfl rfl (by first | omega | (simp only [List.length_map, List.length_cons, List.length_nil, List.length_append, List.length_take, List.length_drop]; omega)) (by first | omega | (simp only [List.length_map, List.length_cons, List.length_nil, List.length_append, List.length_take, List.length_drop]; omega)))) ?_
      refine AXl.nm_d0 ?_
      first
        | refine AXl.qt rfl (by decide : (42:Nat) < 86) (Still.qt (s_loadN _ _ ldT_45_d rfl (by simp [Problem.ds, TagRule.ds, Fld.ds, Sub.ds, Rec.ds]))) ?_
        | refine AXl.qt rfl (by decide : (42:Nat) < 86) (Still.qt (s_loadN_row _ _ ldT_45_d rfl rfl (by first | rfl | exact List.getElem?_eq_getElem (by omega)) (by simp [Problem.ds, TagRule.ds, Fld.ds, Sub.ds, Rec.ds]))) ?_
      refine AXl.alloc zC_45_d (by decide : (9:Nat) < 86) ?_
      refine AXl.qt rfl (by decide : (8:Nat) < 86) (Still.qt (s_assign _)) ?_
      refine AXl.nm_d0 ?_
      first
        | refine AXl.store rfl rfl rfl sz_45_d (by simp [Problem.ds, TagRule.ds, Fld.ds, Sub.ds, Rec.ds]) rfl ?_
        | refine AXl.store_row rfl rfl (by first | rfl | exact List.getElem?_eq_getElem (by omega)) rfl sz_45_d (by simp [Problem.ds, TagRule.ds, Fld.ds, Sub.ds, Rec.ds]) rfl ?_
      refine AXl.nm_d0 ?_
      refine AXl.nil ?_
      refine hK32 _ ?_
      clear hK32 K32
      refine Ethen.n ?_
      refine hK31 _ ?_
      clear hK31 K31
      refine AXc.seq fun K33 hK33 => ?_
      refine AXc.region' fun K34 hK34 => ?_
      refine AXl.qt rfl (by decide : (44:Nat) < 86) (Still.qt (s_move _)) ?_
      first
        | refine AXl.qt rfl (by decide : (45:Nat) < 86) (Still.qt (s_field_loc _ _ _ fdT_45_0_d rfl)) ?_
        | refine AXl.qt rfl (by decide : (45:Nat) < 86) (Still.qt (s_field_ptr _ _ _ fdT_45_0_d rfl)) ?_
        | refine AXl.qt rfl (by decide : (45:Nat) < 86) (Still.qt (s_field_row _ _ _ fdT_45_0_d rfl rfl)) ?_
      first
        | refine AXl.qt rfl (by decide : (46:Nat) < 86) (Still.qt (s_load1 _ _ ldT_9_d rfl)) ?_
        | refine AXl.qt rfl (by decide : (46:Nat) < 86) (Still.qt (s_load1_row _ _ ldT_9_d rfl rfl (by first | rfl | exact List.getElem?_eq_getElem (by omega)) rfl)) ?_
      refine AXl.nm_d0 ?_
      refine AXl.qt rfl (by decide : (47:Nat) < 86) (q_call (c10 l _ (by omega)) (.cons (by first | exact ArgOk.d | exact ArgOk.bor rfl | exact ArgOk.agg rfl | exact ArgOk.agg (toDs_map _) | exact ArgOk.nil_bor | exact ArgOk.nil_lst | exact ArgOk.fn | exact ArgOk.ptr rfl rfl | exact ArgOk.aggn rfl (by repeat first | exact .nil | refine .cons (.refl _) ?_ | refine .cons (.nil _) ?_)) (.cons (by first | exact ArgOk.d | exact ArgOk.bor rfl | exact ArgOk.agg rfl | exact ArgOk.agg (toDs_map _) | exact ArgOk.nil_bor | exact ArgOk.nil_lst | exact ArgOk.fn | exact ArgOk.ptr rfl rfl | exact ArgOk.aggn rfl (by repeat first | exact .nil | refine .cons (.refl _) ?_ | refine .cons (.nil _) ?_)) .nil))) ?_
      refine AXl.qt rfl (by decide : (43:Nat) < 86) (Still.qt (s_move _)) ?_
      refine AXl.qt rfl (by decide : (48:Nat) < 86) (Still.qt (s_extract _ _ rfl rfl (by intro us h; cases h))) ?_
      refine AXl.qt rfl (by decide : (49:Nat) < 86) (Still.qt (s_extract _ _ rfl rfl (by intro us h; cases h))) ?_
      refine AXl.alloc zC_29_d (by decide : (10:Nat) < 86) ?_
      refine AXl.nm_d0 ?_
      first
        | refine AXl.store rfl rfl rfl sz_29_d (by simp [Problem.ds, TagRule.ds, Fld.ds, Sub.ds, Rec.ds]) rfl ?_
        | refine AXl.store_row rfl rfl (by first | rfl | exact List.getElem?_eq_getElem (by omega)) rfl sz_29_d (by simp [Problem.ds, TagRule.ds, Fld.ds, Sub.ds, Rec.ds]) rfl ?_
      refine AXl.qt rfl (by decide : (11:Nat) < 86) (Still.qt (s_assign _)) ?_
      refine AXl.nm_d0 ?_
      refine AXl.nil ?_
      refine hK34 _ ?_
      clear hK34 K34
      refine Ethen.n ?_
      refine hK33 _ ?_
      clear hK33 K33
      refine AXc.seq fun K35 hK35 => ?_
      refine AXc.seq fun K36 hK36 => ?_
      refine AXc.region' fun K37 hK37 => ?_
      refine AXl.qt rfl (by decide : (50:Nat) < 86) (Still.qt (s_move _)) ?_
      refine AXl.qt rfl (by decide : (51:Nat) < 86) (Still.qt (s_not _ _ rfl)) ?_
      refine AXl.nm_d0 ?_
      refine AXl.nil ?_
      refine hK37 _ ?_
      clear hK37 K37
      refine Ethen.n ?_
      refine hK36 _ ?_
      clear hK36 K36
      refine AXc.cond rfl (fun hc38 => ?_) (fun hc38 => ?_)
      · try simp only [decide_eq_true_eq, decide_eq_false_iff_not, Bool.not_eq_true', Bool.not_eq_false', Int.not_lt, Int.not_le, ne_eq, Decidable.not_not, bne_iff_ne, beq_iff_eq, Bool.and_eq_true, Bool.or_eq_true, Bool.and_eq_false_iff, Bool.or_eq_false_iff, Bool.not_not, Ax.u8eq] at hc38
        refine AXc.seq fun K39 hK39 => ?_
        refine AXc.region' fun K40 hK40 => ?_
        refine AXl.qt rfl (by decide : (52:Nat) < 86) (Still.qt (s_move _)) ?_
        refine AXl.qt rfl (by decide : (53:Nat) < 86) (Still.qt (s_move _)) ?_
        first
          | refine AXl.qt rfl (by decide : (54:Nat) < 86) (Still.qt (s_field_loc _ _ _ fdT_45_0_d rfl)) ?_
          | refine AXl.qt rfl (by decide : (54:Nat) < 86) (Still.qt (s_field_ptr _ _ _ fdT_45_0_d rfl)) ?_
          | refine AXl.qt rfl (by decide : (54:Nat) < 86) (Still.qt (s_field_row _ _ _ fdT_45_0_d rfl rfl)) ?_
        first
          | refine AXl.qt rfl (by decide : (55:Nat) < 86) (Still.qt (s_load1 _ _ ldT_9_d rfl)) ?_
          | refine AXl.qt rfl (by decide : (55:Nat) < 86) (Still.qt (s_load1_row _ _ ldT_9_d rfl rfl (by first | rfl | exact List.getElem?_eq_getElem (by omega)) rfl)) ?_
        refine AXl.nm_d0 ?_
        refine AXl.qt rfl (by decide : (56:Nat) < 86) (Still.qt (s_build _ _ plT_41_d zC_41_d rfl)) ?_
        refine AXl.qt rfl (by decide : (57:Nat) < 86) (q_buildSlice _ _ _ apT_35_d rfl rfl (by decide)) ?_
        first
          | refine AXl.append apT_35_d rfl rfl rfl (by simp only [List.length_append, List.length_map, List.length_cons, List.length_nil]; omega) (by simp only [List.length_append, List.length_map, List.length_cons, List.length_nil]; omega) (by decide : (58:Nat) < 86) ?_
          | refine AXl.append_nil apT_35_d rfl (by decide) rfl (by simp only [List.length_append, List.length_map, List.length_cons, List.length_nil]; omega) (by simp only [List.length_append, List.length_map, List.length_cons, List.length_nil]; omega) (by decide : (58:Nat) < 86) ?_
        refine AXl.qt rfl (by decide : (5:Nat) < 86) (Still.qt (s_assign _)) ?_
        refine AXl.nm_d0 ?_
        refine AXl.nil ?_
        refine hK40 _ ?_
        clear hK40 K40
        refine Ethen.n ?_
        refine hK39 _ ?_
        clear hK39 K39
        refine AXc.exit ?_
        refine Ethen.e ?_
        clear hK35 K35
        refine EinBlock.hit ?_
        refine Ethen.n ?_
        refine hK30 _ ?_
        clear hK30 K30
        refine AXc.region' fun K41 hK41 => ?_
        refine AXl.qt rfl (by decide : (84:Nat) < 86) (Still.qt (s_iar _ _ _ _ _ rfl rfl rfl (IntWalk.i64_in _ ⟨(by first | omega | (simp only [List.length_map, List.length_cons, List.length_nil, List.length_append, List.length_take, List.length_drop]; omega)), (by first | omega | (simp only [List.length_map, List.length_cons, List.length_nil, List.length_append, List.length_take, List.length_drop]; omega))⟩))) ?_
        refine AXl.qt rfl (by decide : (38:Nat) < 86) (Still.qt (s_move _)) ?_
        refine AXl.nm_d0 ?_
        refine AXl.nil ?_
        refine hK41 _ ?_
        clear hK41 K41
        refine Ethen.n ?_
        clear hK23 K23
        rw [flds_next l r.fields hk] at hinv; unfold oneP repP at hinv
        first
          | (refine ⟨(k + 1, ver + 1, out ++ [⟨2, k, r.fields[k].tag, 0⟩]), ⟨by omega, ?_⟩, by first | omega | (dsimp only; omega), (by refine ⟨?_, ?_, ?_, ?_, ?_, ?_⟩ <;> (simp [subE, lk, AV.low, C.low, LB.low, Problem.ds, TagRule.ds, Fld.ds, Sub.ds, Rec.ds] <;> fail))⟩
             simp only [hc11, hc29, hc38, Bool.true_and, Bool.and_true, Bool.not_true, Bool.not_false, Bool.false_and, Bool.and_false, Bool.and_self, if_true, if_false, ↓reduceIte, Bool.false_eq_true, List.nil_append, List.append_assoc] at hinv ⊢
             first | exact hinv | simpa using hinv)
          | (refine ⟨(k + 1, ver + 2, (out ++ [⟨3, k, r.fields[k].tag, 0⟩]) ++ fieldP (getR l r.fields[k].tag) r.fields[k] k), ⟨by omega, ?_⟩, by first | omega | (dsimp only; omega), (by refine ⟨?_, ?_, ?_, ?_, ?_, ?_⟩ <;> (simp [subE, lk, AV.low, C.low, LB.low, Problem.ds, TagRule.ds, Fld.ds, Sub.ds, Rec.ds] <;> fail))⟩
             simp only [hc11, hc29, hc38, Bool.true_and, Bool.and_true, Bool.not_true, Bool.not_false, Bool.false_and, Bool.and_false, Bool.and_self, if_true, if_false, ↓reduceIte, Bool.false_eq_true, List.nil_append, List.append_assoc] at hinv ⊢
             first | exact hinv | simpa using hinv)
          | (refine ⟨(k + 1, ver + 1, out ++ fieldP (getR l r.fields[k].tag) r.fields[k] k), ⟨by omega, ?_⟩, by first | omega | (dsimp only; omega), (by refine ⟨?_, ?_, ?_, ?_, ?_, ?_⟩ <;> (simp [subE, lk, AV.low, C.low, LB.low, Problem.ds, TagRule.ds, Fld.ds, Sub.ds, Rec.ds] <;> fail))⟩
             simp only [hc11, hc29, hc38, Bool.true_and, Bool.and_true, Bool.not_true, Bool.not_false, Bool.false_and, Bool.and_false, Bool.and_self, if_true, if_false, ↓reduceIte, Bool.false_eq_true, List.nil_append, List.append_assoc] at hinv ⊢
             first | exact hinv | simpa using hinv)
      · try simp only [decide_eq_true_eq, decide_eq_false_iff_not, Bool.not_eq_true', Bool.not_eq_false', Int.not_lt, Int.not_le, ne_eq, Decidable.not_not, bne_iff_ne, beq_iff_eq, Bool.and_eq_true, Bool.or_eq_true, Bool.and_eq_false_iff, Bool.or_eq_false_iff, Bool.not_not, Ax.u8eq] at hc38
        refine AXc.skip ?_
        refine Ethen.n ?_
        refine hK35 _ ?_
        clear hK35 K35
        refine AXc.seq fun K42 hK42 => ?_
        refine AXc.seq fun K43 hK43 => ?_
        refine AXc.draw' mixed_d 12 (by kernel_rfl) fun K44 hK44 => ?_
        simp only [List.take_succ_cons, List.take_zero, List.take_nil, List.drop_succ_cons, List.drop_zero, List.drop_nil]
        first
          | refine AXd.op rfl (Still.qt (s_field_loc _ _ _ fdT_29_1_d rfl)) ?_
          | refine AXd.op rfl (Still.qt (s_field_ptr _ _ _ fdT_29_1_d rfl)) ?_
          | refine AXd.op rfl (Still.qt (s_field_row _ _ _ fdT_29_1_d rfl rfl)) ?_
        first
          | refine AXd.op rfl (Still.qt (s_load1 _ _ ldT_4_d rfl)) ?_
          | refine AXd.op rfl (Still.qt (s_load1_row _ _ ldT_4_d rfl rfl (by first | rfl | exact List.getElem?_eq_getElem (by omega)) rfl)) ?_
        refine AXd.op rfl (Still.qt (s_not _ _ rfl)) ?_
        refine AXd.op rfl (Still.qt (s_move _)) ?_
        refine AXd.nm_d0 ?_
        refine AXd.split 62 _ rfl (fun hg45 => ?_) (fun hg45 => ?_)
        · try simp only [decide_eq_true_eq, decide_eq_false_iff_not, Bool.not_eq_true', Bool.not_eq_false', Int.not_lt, Int.not_le, ne_eq, Decidable.not_not, bne_iff_ne, beq_iff_eq, Bool.and_eq_true, Bool.or_eq_true, Bool.and_eq_false_iff, Bool.or_eq_false_iff, Bool.not_not, Ax.u8eq] at hg45
          simp only [del, ↓reduceIte, Nat.reduceEqDiff]
          first
            | refine AXd.op rfl (Still.qt (s_field_loc _ _ _ fdT_27_4_d rfl)) ?_
            | refine AXd.op rfl (Still.qt (s_field_ptr _ _ _ fdT_27_4_d rfl)) ?_
            | refine AXd.op rfl (Still.qt (s_field_row _ _ _ fdT_27_4_d rfl rfl)) ?_
          first
            | refine AXd.op rfl (Still.qt (s_load1 _ _ ldT_25_d rfl)) ?_
            | refine AXd.op rfl (Still.qt (s_load1_row _ _ ldT_25_d rfl rfl (by first | rfl | exact List.getElem?_eq_getElem (by omega)) rfl)) ?_
          refine AXd.op rfl (Still.qt (s_move _)) ?_
          refine AXd.nm_d0 ?_
          first
            | refine AXd.op rfl (Still.qt (s_slice_lst _ _ _ _ slT_25_d rfl rfl rfl ⟨_, _, rfl, (by first | omega | (simp only [List.length_map, List.length_cons, List.length_nil, List.length_append, List.length_take, List.length_drop]; omega)), rfl⟩ (by first | omega | (simp only [List.length_map, List.length_cons, List.length_nil, List.length_append, List.length_take, List.length_drop]; omega)) (by first | omega | (simp only [List.length_map, List.length_cons, List.length_nil, List.length_append, List.length_take, List.length_drop]; omega)))) ?_
            | refine AXd.op rfl (Still.qt (s_slice_bor _ _ _ _ slT_25_d rfl rfl rfl ⟨_, _, rfl, (by first | omega | (simp only [List.length_map, List.length_cons, List.length_nil, List.length_append, List.length_take, List.length_drop]; omega)), rfl⟩ (by first | omega | (simp only [List.length_map, List.length_cons, List.length_nil, List.length_append, List.length_take, List.length_drop]; omega)) (by first | omega | (simp only [List.length_map, List.length_cons, List.length_nil, List.length_append, List.length_take, List.length_drop]; omega)))) ?_
            | refine AXd.op rfl (Still.qt (s_slice_own _ _ _ _ slT_25_d rfl rfl rfl rfl ⟨_, _, rfl, (by first | omega | (simp only [List.length_map, List.length_cons, List.length_nil, List.length_append, List.length_take, List.length_drop]; omega)), rfl⟩ (by first | omega | (simp only [List.length_map, List.length_cons, List.length_nil, List.length_append, List.length_take, List.length_drop]; omega)) (by first | omega | (simp only [List.length_map, List.length_cons, List.length_nil, List.length_append, List.length_take, List.length_drop]; omega)))) ?_
          first
            | refine AXd.op rfl (Still.qt (s_field_loc _ _ _ fdT_45_0_d rfl)) ?_
            | refine AXd.op rfl (Still.qt (s_field_ptr _ _ _ fdT_45_0_d rfl)) ?_
            | refine AXd.op rfl (Still.qt (s_field_row _ _ _ fdT_45_0_d rfl rfl)) ?_
          first
            | refine AXd.op rfl (Still.qt (s_load1 _ _ ldT_9_d rfl)) ?_
            | refine AXd.op rfl (Still.qt (s_load1_row _ _ ldT_9_d rfl rfl (by first | rfl | exact List.getElem?_eq_getElem (by omega)) rfl)) ?_
          refine AXd.nm_d0 ?_
          refine AXd.op rfl (q_call (c30 _ _ ?hs) (.cons (by first | exact ArgOk.d | exact ArgOk.bor rfl | exact ArgOk.agg rfl | exact ArgOk.agg (toDs_map _) | exact ArgOk.nil_bor | exact ArgOk.nil_lst | exact ArgOk.fn | exact ArgOk.ptr rfl rfl | exact ArgOk.aggn rfl (by repeat first | exact .nil | refine .cons (.refl _) ?_ | refine .cons (.nil _) ?_)) (.cons (by first | exact ArgOk.d | exact ArgOk.bor rfl | exact ArgOk.agg rfl | exact ArgOk.agg (toDs_map _) | exact ArgOk.nil_bor | exact ArgOk.nil_lst | exact ArgOk.fn | exact ArgOk.ptr rfl rfl | exact ArgOk.aggn rfl (by repeat first | exact .nil | refine .cons (.refl _) ?_ | refine .cons (.nil _) ?_)) .nil))) ?_
          case hs => first | omega | (rw [List.length_take]; omega)
          refine AXd.op rfl (Still.qt (s_pick_t _ _ _ rfl)) ?_
          refine AXd.nm_d0 ?_
          refine AXd.nil ?_
          refine AXl.nil ?_
          refine hK44 _ ?_
          clear hK44 K44
          refine Ethen.n ?_
          refine hK43 _ ?_
          clear hK43 K43
          refine AXc.cond rfl (fun hc46 => ?_) (fun hc46 => ?_)
          · try simp only [decide_eq_true_eq, decide_eq_false_iff_not, Bool.not_eq_true', Bool.not_eq_false', Int.not_lt, Int.not_le, ne_eq, Decidable.not_not, bne_iff_ne, beq_iff_eq, Bool.and_eq_true, Bool.or_eq_true, Bool.and_eq_false_iff, Bool.or_eq_false_iff, Bool.not_not, Ax.u8eq] at hc46
            refine AXc.region' fun K47 hK47 => ?_
            refine AXl.qt rfl (by decide : (71:Nat) < 86) (Still.qt (s_move _)) ?_
            refine AXl.qt rfl (by decide : (72:Nat) < 86) (Still.qt (s_move _)) ?_
            first
              | refine AXl.qt rfl (by decide : (73:Nat) < 86) (Still.qt (s_field_loc _ _ _ fdT_45_0_d rfl)) ?_
              | refine AXl.qt rfl (by decide : (73:Nat) < 86) (Still.qt (s_field_ptr _ _ _ fdT_45_0_d rfl)) ?_
              | refine AXl.qt rfl (by decide : (73:Nat) < 86) (Still.qt (s_field_row _ _ _ fdT_45_0_d rfl rfl)) ?_
            first
              | refine AXl.qt rfl (by decide : (74:Nat) < 86) (Still.qt (s_load1 _ _ ldT_9_d rfl)) ?_
              | refine AXl.qt rfl (by decide : (74:Nat) < 86) (Still.qt (s_load1_row _ _ ldT_9_d rfl rfl (by first | rfl | exact List.getElem?_eq_getElem (by omega)) rfl)) ?_
            refine AXl.nm_d0 ?_
            refine AXl.qt rfl (by decide : (75:Nat) < 86) (Still.qt (s_build _ _ plT_41_d zC_41_d rfl)) ?_
            refine AXl.qt rfl (by decide : (76:Nat) < 86) (q_buildSlice _ _ _ apT_35_d rfl rfl (by decide)) ?_
            first
              | refine AXl.append apT_35_d rfl rfl rfl (by simp only [List.length_append, List.length_map, List.length_cons, List.length_nil]; omega) (by simp only [List.length_append, List.length_map, List.length_cons, List.length_nil]; omega) (by decide : (77:Nat) < 86) ?_
              | refine AXl.append_nil apT_35_d rfl (by decide) rfl (by simp only [List.length_append, List.length_map, List.length_cons, List.length_nil]; omega) (by simp only [List.length_append, List.length_map, List.length_cons, List.length_nil]; omega) (by decide : (77:Nat) < 86) ?_
            refine AXl.qt rfl (by decide : (5:Nat) < 86) (Still.qt (s_assign _)) ?_
            refine AXl.nm_d0 ?_
            refine AXl.nil ?_
            refine hK47 _ ?_
            clear hK47 K47
            refine Ethen.n ?_
            refine hK42 _ ?_
            clear hK42 K42
            refine AXc.region' fun K48 hK48 => ?_
            refine AXl.qt rfl (by decide : (78:Nat) < 86) (Still.qt (s_move _)) ?_
            refine AXl.nm_d0 ?_
            first
              | refine AXl.qt rfl (by decide : (79:Nat) < 86) (Still.qt (s_loadN _ _ ldT_29_d rfl (by simp [Problem.ds, TagRule.ds, Fld.ds, Sub.ds, Rec.ds]))) ?_
              | refine AXl.qt rfl (by decide : (79:Nat) < 86) (Still.qt (s_loadN_row _ _ ldT_29_d rfl rfl (by first | rfl | exact List.getElem?_eq_getElem (by omega)) (by simp [Problem.ds, TagRule.ds, Fld.ds, Sub.ds, Rec.ds]))) ?_
            refine AXl.nm_d0 ?_
            first
              | refine AXl.qt rfl (by decide : (80:Nat) < 86) (Still.qt (s_loadN _ _ ldT_45_d rfl (by simp [Problem.ds, TagRule.ds, Fld.ds, Sub.ds, Rec.ds]))) ?_
              | refine AXl.qt rfl (by decide : (80:Nat) < 86) (Still.qt (s_loadN_row _ _ ldT_45_d rfl rfl (by first | rfl | exact List.getElem?_eq_getElem (by omega)) (by simp [Problem.ds, TagRule.ds, Fld.ds, Sub.ds, Rec.ds]))) ?_
            refine AXl.qt rfl (by decide : (81:Nat) < 86) (Still.qt (s_move _)) ?_
            refine AXl.nm_d0 ?_
            refine AXl.qt rfl (by decide : (82:Nat) < 86) (q_call (c31 (getR l r.fields[k].tag) r.fields[k] k hokr hokf) (.cons (by first | exact ArgOk.d | exact ArgOk.bor rfl | exact ArgOk.agg rfl | exact ArgOk.agg (toDs_map _) | exact ArgOk.nil_bor | exact ArgOk.nil_lst | exact ArgOk.fn | exact ArgOk.ptr rfl rfl | exact ArgOk.aggn rfl (by repeat first | exact .nil | refine .cons (.refl _) ?_ | refine .cons (.nil _) ?_)) (.cons (by first | exact ArgOk.d | exact ArgOk.bor rfl | exact ArgOk.agg rfl | exact ArgOk.agg (toDs_map _) | exact ArgOk.nil_bor | exact ArgOk.nil_lst | exact ArgOk.fn | exact ArgOk.ptr rfl rfl | exact ArgOk.aggn rfl (by repeat first | exact .nil | refine .cons (.refl _) ?_ | refine .cons (.nil _) ?_)) (.cons (by first | exact ArgOk.d | exact ArgOk.bor rfl | exact ArgOk.agg rfl | exact ArgOk.agg (toDs_map _) | exact ArgOk.nil_bor | exact ArgOk.nil_lst | exact ArgOk.fn | exact ArgOk.ptr rfl rfl | exact ArgOk.aggn rfl (by repeat first | exact .nil | refine .cons (.refl _) ?_ | refine .cons (.nil _) ?_)) .nil)))) ?_
            first
              | refine AXl.append apT_35_d rfl rfl rfl (by simp only [List.length_append, List.length_map, List.length_cons, List.length_nil]; omega) (by simp only [List.length_append, List.length_map, List.length_cons, List.length_nil]; omega) (by decide : (83:Nat) < 86) ?_
              | refine AXl.append_nil apT_35_d rfl (by decide) rfl (by simp only [List.length_append, List.length_map, List.length_cons, List.length_nil]; omega) (by simp only [List.length_append, List.length_map, List.length_cons, List.length_nil]; omega) (by decide : (83:Nat) < 86) ?_
            refine AXl.qt rfl (by decide : (5:Nat) < 86) (Still.qt (s_assign _)) ?_
            refine AXl.nm_d0 ?_
            refine AXl.nil ?_
            refine hK48 _ ?_
            clear hK48 K48
            refine EinBlock.n ?_
            refine Ethen.n ?_
            refine hK30 _ ?_
            clear hK30 K30
            refine AXc.region' fun K49 hK49 => ?_
            refine AXl.qt rfl (by decide : (84:Nat) < 86) (Still.qt (s_iar _ _ _ _ _ rfl rfl rfl (IntWalk.i64_in _ ⟨(by first | omega | (simp only [List.length_map, List.length_cons, List.length_nil, List.length_append, List.length_take, List.length_drop]; omega)), (by first | omega | (simp only [List.length_map, List.length_cons, List.length_nil, List.length_append, List.length_take, List.length_drop]; omega))⟩))) ?_
            refine AXl.qt rfl (by decide : (38:Nat) < 86) (Still.qt (s_move _)) ?_
            refine AXl.nm_d0 ?_
            refine AXl.nil ?_
            refine hK49 _ ?_
            clear hK49 K49
            refine Ethen.n ?_
            clear hK23 K23
            rw [flds_next l r.fields hk] at hinv; unfold oneP repP at hinv
            first
              | (refine ⟨(k + 1, ver + 1, out ++ [⟨2, k, r.fields[k].tag, 0⟩]), ⟨by omega, ?_⟩, by first | omega | (dsimp only; omega), (by refine ⟨?_, ?_, ?_, ?_, ?_, ?_⟩ <;> (simp [subE, lk, AV.low, C.low, LB.low, Problem.ds, TagRule.ds, Fld.ds, Sub.ds, Rec.ds] <;> fail))⟩
                 simp only [hc11, hc29, hc38, hg45, hc46, Bool.true_and, Bool.and_true, Bool.not_true, Bool.not_false, Bool.false_and, Bool.and_false, Bool.and_self, if_true, if_false, ↓reduceIte, Bool.false_eq_true, List.nil_append, List.append_assoc] at hinv ⊢
                 first | exact hinv | simpa using hinv)
              | (refine ⟨(k + 1, ver + 2, (out ++ [⟨3, k, r.fields[k].tag, 0⟩]) ++ fieldP (getR l r.fields[k].tag) r.fields[k] k), ⟨by omega, ?_⟩, by first | omega | (dsimp only; omega), (by refine ⟨?_, ?_, ?_, ?_, ?_, ?_⟩ <;> (simp [subE, lk, AV.low, C.low, LB.low, Problem.ds, TagRule.ds, Fld.ds, Sub.ds, Rec.ds] <;> fail))⟩
                 simp only [hc11, hc29, hc38, hg45, hc46, Bool.true_and, Bool.and_true, Bool.not_true, Bool.not_false, Bool.false_and, Bool.and_false, Bool.and_self, if_true, if_false, ↓reduceIte, Bool.false_eq_true, List.nil_append, List.append_assoc] at hinv ⊢
                 first | exact hinv | simpa using hinv)
              | (refine ⟨(k + 1, ver + 1, out ++ fieldP (getR l r.fields[k].tag) r.fields[k] k), ⟨by omega, ?_⟩, by first | omega | (dsimp only; omega), (by refine ⟨?_, ?_, ?_, ?_, ?_, ?_⟩ <;> (simp [subE, lk, AV.low, C.low, LB.low, Problem.ds, TagRule.ds, Fld.ds, Sub.ds, Rec.ds] <;> fail))⟩
                 simp only [hc11, hc29, hc38, hg45, hc46, Bool.true_and, Bool.and_true, Bool.not_true, Bool.not_false, Bool.false_and, Bool.and_false, Bool.and_self, if_true, if_false, ↓reduceIte, Bool.false_eq_true, List.nil_append, List.append_assoc] at hinv ⊢
                 first | exact hinv | simpa using hinv)
          · try simp only [decide_eq_true_eq, decide_eq_false_iff_not, Bool.not_eq_true', Bool.not_eq_false', Int.not_lt, Int.not_le, ne_eq, Decidable.not_not, bne_iff_ne, beq_iff_eq, Bool.and_eq_true, Bool.or_eq_true, Bool.and_eq_false_iff, Bool.or_eq_false_iff, Bool.not_not, Ax.u8eq] at hc46
            refine AXc.skip ?_
            refine Ethen.n ?_
            refine hK42 _ ?_
            clear hK42 K42
            refine AXc.region' fun K50 hK50 => ?_
            refine AXl.qt rfl (by decide : (78:Nat) < 86) (Still.qt (s_move _)) ?_
            refine AXl.nm_d0 ?_
            first
              | refine AXl.qt rfl (by decide : (79:Nat) < 86) (Still.qt (s_loadN _ _ ldT_29_d rfl (by simp [Problem.ds, TagRule.ds, Fld.ds, Sub.ds, Rec.ds]))) ?_
              | refine AXl.qt rfl (by decide : (79:Nat) < 86) (Still.qt (s_loadN_row _ _ ldT_29_d rfl rfl (by first | rfl | exact List.getElem?_eq_getElem (by omega)) (by simp [Problem.ds, TagRule.ds, Fld.ds, Sub.ds, Rec.ds]))) ?_
            refine AXl.nm_d0 ?_
            first
              | refine AXl.qt rfl (by decide : (80:Nat) < 86) (Still.qt (s_loadN _ _ ldT_45_d rfl (by simp [Problem.ds, TagRule.ds, Fld.ds, Sub.ds, Rec.ds]))) ?_
              | refine AXl.qt rfl (by decide : (80:Nat) < 86) (Still.qt (s_loadN_row _ _ ldT_45_d rfl rfl (by first | rfl | exact List.getElem?_eq_getElem (by omega)) (by simp [Problem.ds, TagRule.ds, Fld.ds, Sub.ds, Rec.ds]))) ?_
            refine AXl.qt rfl (by decide : (81:Nat) < 86) (Still.qt (s_move _)) ?_
            refine AXl.nm_d0 ?_
            refine AXl.qt rfl (by decide : (82:Nat) < 86) (q_call (c31 (getR l r.fields[k].tag) r.fields[k] k hokr hokf) (.cons (by first | exact ArgOk.d | exact ArgOk.bor rfl | exact ArgOk.agg rfl | exact ArgOk.agg (toDs_map _) | exact ArgOk.nil_bor | exact ArgOk.nil_lst | exact ArgOk.fn | exact ArgOk.ptr rfl rfl | exact ArgOk.aggn rfl (by repeat first | exact .nil | refine .cons (.refl _) ?_ | refine .cons (.nil _) ?_)) (.cons (by first | exact ArgOk.d | exact ArgOk.bor rfl | exact ArgOk.agg rfl | exact ArgOk.agg (toDs_map _) | exact ArgOk.nil_bor | exact ArgOk.nil_lst | exact ArgOk.fn | exact ArgOk.ptr rfl rfl | exact ArgOk.aggn rfl (by repeat first | exact .nil | refine .cons (.refl _) ?_ | refine .cons (.nil _) ?_)) (.cons (by first | exact ArgOk.d | exact ArgOk.bor rfl | exact ArgOk.agg rfl | exact ArgOk.agg (toDs_map _) | exact ArgOk.nil_bor | exact ArgOk.nil_lst | exact ArgOk.fn | exact ArgOk.ptr rfl rfl | exact ArgOk.aggn rfl (by repeat first | exact .nil | refine .cons (.refl _) ?_ | refine .cons (.nil _) ?_)) .nil)))) ?_
            first
              | refine AXl.append apT_35_d rfl rfl rfl (by simp only [List.length_append, List.length_map, List.length_cons, List.length_nil]; omega) (by simp only [List.length_append, List.length_map, List.length_cons, List.length_nil]; omega) (by decide : (83:Nat) < 86) ?_
              | refine AXl.append_nil apT_35_d rfl (by decide) rfl (by simp only [List.length_append, List.length_map, List.length_cons, List.length_nil]; omega) (by simp only [List.length_append, List.length_map, List.length_cons, List.length_nil]; omega) (by decide : (83:Nat) < 86) ?_
            refine AXl.qt rfl (by decide : (5:Nat) < 86) (Still.qt (s_assign _)) ?_
            refine AXl.nm_d0 ?_
            refine AXl.nil ?_
            refine hK50 _ ?_
            clear hK50 K50
            refine EinBlock.n ?_
            refine Ethen.n ?_
            refine hK30 _ ?_
            clear hK30 K30
            refine AXc.region' fun K51 hK51 => ?_
            refine AXl.qt rfl (by decide : (84:Nat) < 86) (Still.qt (s_iar _ _ _ _ _ rfl rfl rfl (IntWalk.i64_in _ ⟨(by first | omega | (simp only [List.length_map, List.length_cons, List.length_nil, List.length_append, List.length_take, List.length_drop]; omega)), (by first | omega | (simp only [List.length_map, List.length_cons, List.length_nil, List.length_append, List.length_take, List.length_drop]; omega))⟩))) ?_
            refine AXl.qt rfl (by decide : (38:Nat) < 86) (Still.qt (s_move _)) ?_
            refine AXl.nm_d0 ?_
            refine AXl.nil ?_
            refine hK51 _ ?_
            clear hK51 K51
            refine Ethen.n ?_
            clear hK23 K23
            rw [flds_next l r.fields hk] at hinv; unfold oneP repP at hinv
            first
              | (refine ⟨(k + 1, ver + 1, out ++ [⟨2, k, r.fields[k].tag, 0⟩]), ⟨by omega, ?_⟩, by first | omega | (dsimp only; omega), (by refine ⟨?_, ?_, ?_, ?_, ?_, ?_⟩ <;> (simp [subE, lk, AV.low, C.low, LB.low, Problem.ds, TagRule.ds, Fld.ds, Sub.ds, Rec.ds] <;> fail))⟩
                 simp only [hc11, hc29, hc38, hg45, hc46, Bool.true_and, Bool.and_true, Bool.not_true, Bool.not_false, Bool.false_and, Bool.and_false, Bool.and_self, if_true, if_false, ↓reduceIte, Bool.false_eq_true, List.nil_append, List.append_assoc] at hinv ⊢
                 first | exact hinv | simpa using hinv)
              | (refine ⟨(k + 1, ver + 2, (out ++ [⟨3, k, r.fields[k].tag, 0⟩]) ++ fieldP (getR l r.fields[k].tag) r.fields[k] k), ⟨by omega, ?_⟩, by first | omega | (dsimp only; omega), (by refine ⟨?_, ?_, ?_, ?_, ?_, ?_⟩ <;> (simp [subE, lk, AV.low, C.low, LB.low, Problem.ds, TagRule.ds, Fld.ds, Sub.ds, Rec.ds] <;> fail))⟩
                 simp only [hc11, hc29, hc38, hg45, hc46, Bool.true_and, Bool.and_true, Bool.not_true, Bool.not_false, Bool.false_and, Bool.and_false, Bool.and_self, if_true, if_false, ↓reduceIte, Bool.false_eq_true, List.nil_append, List.append_assoc] at hinv ⊢
                 first | exact hinv | simpa using hinv)
              | (refine ⟨(k + 1, ver + 1, out ++ fieldP (getR l r.fields[k].tag) r.fields[k] k), ⟨by omega, ?_⟩, by first | omega | (dsimp only; omega), (by refine ⟨?_, ?_, ?_, ?_, ?_, ?_⟩ <;> (simp [subE, lk, AV.low, C.low, LB.low, Problem.ds, TagRule.ds, Fld.ds, Sub.ds, Rec.ds] <;> fail))⟩
                 simp only [hc11, hc29, hc38, hg45, hc46, Bool.true_and, Bool.and_true, Bool.not_true, Bool.not_false, Bool.false_and, Bool.and_false, Bool.and_self, if_true, if_false, ↓reduceIte, Bool.false_eq_true, List.nil_append, List.append_assoc] at hinv ⊢
                 first | exact hinv | simpa using hinv)
        · try simp only [decide_eq_true_eq, decide_eq_false_iff_not, Bool.not_eq_true', Bool.not_eq_false', Int.not_lt, Int.not_le, ne_eq, Decidable.not_not, bne_iff_ne, beq_iff_eq, Bool.and_eq_true, Bool.or_eq_true, Bool.and_eq_false_iff, Bool.or_eq_false_iff, Bool.not_not, Ax.u8eq] at hg45
          simp only [del, ↓reduceIte, Nat.reduceEqDiff]
          refine AXd.skip rfl ?_
          refine AXd.skip rfl ?_
          refine AXd.skip rfl ?_
          refine AXd.skip rfl ?_
          refine AXd.skip rfl ?_
          refine AXd.skip rfl ?_
          refine AXd.skip rfl ?_
          refine AXd.op rfl (Still.qt (s_pick_f _ _ _ rfl)) ?_
          refine AXd.nm_d0 ?_
          refine AXd.nil ?_
          refine AXl.nil ?_
          refine hK44 _ ?_
          clear hK44 K44
          refine Ethen.n ?_
          refine hK43 _ ?_
          clear hK43 K43
          refine AXc.cond_f rfl ?_
          refine AXc.skip ?_
          refine Ethen.n ?_
          refine hK42 _ ?_
          clear hK42 K42
          refine AXc.region' fun K52 hK52 => ?_
          refine AXl.qt rfl (by decide : (78:Nat) < 86) (Still.qt (s_move _)) ?_
          refine AXl.nm_d0 ?_
          first
            | refine AXl.qt rfl (by decide : (79:Nat) < 86) (Still.qt (s_loadN _ _ ldT_29_d rfl (by simp [Problem.ds, TagRule.ds, Fld.ds, Sub.ds, Rec.ds]))) ?_
            | refine AXl.qt rfl (by decide : (79:Nat) < 86) (Still.qt (s_loadN_row _ _ ldT_29_d rfl rfl (by first | rfl | exact List.getElem?_eq_getElem (by omega)) (by simp [Problem.ds, TagRule.ds, Fld.ds, Sub.ds, Rec.ds]))) ?_
          refine AXl.nm_d0 ?_
          first
            | refine AXl.qt rfl (by decide : (80:Nat) < 86) (Still.qt (s_loadN _ _ ldT_45_d rfl (by simp [Problem.ds, TagRule.ds, Fld.ds, Sub.ds, Rec.ds]))) ?_
            | refine AXl.qt rfl (by decide : (80:Nat) < 86) (Still.qt (s_loadN_row _ _ ldT_45_d rfl rfl (by first | rfl | exact List.getElem?_eq_getElem (by omega)) (by simp [Problem.ds, TagRule.ds, Fld.ds, Sub.ds, Rec.ds]))) ?_
          refine AXl.qt rfl (by decide : (81:Nat) < 86) (Still.qt (s_move _)) ?_
          refine AXl.nm_d0 ?_
          refine AXl.qt rfl (by decide : (82:Nat) < 86) (q_call (c31 (getR l r.fields[k].tag) r.fields[k] k hokr hokf) (.cons (by first | exact ArgOk.d | exact ArgOk.bor rfl | exact ArgOk.agg rfl | exact ArgOk.agg (toDs_map _) | exact ArgOk.nil_bor | exact ArgOk.nil_lst | exact ArgOk.fn | exact ArgOk.ptr rfl rfl | exact ArgOk.aggn rfl (by repeat first | exact .nil | refine .cons (.refl _) ?_ | refine .cons (.nil _) ?_)) (.cons (by first | exact ArgOk.d | exact ArgOk.bor rfl | exact ArgOk.agg rfl | exact ArgOk.agg (toDs_map _) | exact ArgOk.nil_bor | exact ArgOk.nil_lst | exact ArgOk.fn | exact ArgOk.ptr rfl rfl | exact ArgOk.aggn rfl (by repeat first | exact .nil | refine .cons (.refl _) ?_ | refine .cons (.nil _) ?_)) (.cons (by first | exact ArgOk.d | exact ArgOk.bor rfl | exact ArgOk.agg rfl | exact ArgOk.agg (toDs_map _) | exact ArgOk.nil_bor | exact ArgOk.nil_lst | exact ArgOk.fn | exact ArgOk.ptr rfl rfl | exact ArgOk.aggn rfl (by repeat first | exact .nil | refine .cons (.refl _) ?_ | refine .cons (.nil _) ?_)) .nil)))) ?_
          first
            | refine AXl.append apT_35_d rfl rfl rfl (by simp only [List.length_append, List.length_map, List.length_cons, List.length_nil]; omega) (by simp only [List.length_append, List.length_map, List.length_cons, List.length_nil]; omega) (by decide : (83:Nat) < 86) ?_
            | refine AXl.append_nil apT_35_d rfl (by decide) rfl (by simp only [List.length_append, List.length_map, List.length_cons, List.length_nil]; omega) (by simp only [List.length_append, List.length_map, List.length_cons, List.length_nil]; omega) (by decide : (83:Nat) < 86) ?_
          refine AXl.qt rfl (by decide : (5:Nat) < 86) (Still.qt (s_assign _)) ?_
          refine AXl.nm_d0 ?_
          refine AXl.nil ?_
          refine hK52 _ ?_
          clear hK52 K52
          refine EinBlock.n ?_
          refine Ethen.n ?_
          refine hK30 _ ?_
          clear hK30 K30
          refine AXc.region' fun K53 hK53 => ?_
          refine AXl.qt rfl (by decide : (84:Nat) < 86) (Still.qt (s_iar _ _ _ _ _ rfl rfl rfl (IntWalk.i64_in _ ⟨(by first | omega | (simp only [List.length_map, List.length_cons, List.length_nil, List.length_append, List.length_take, List.length_drop]; omega)), (by first | omega | (simp only [List.length_map, List.length_cons, List.length_nil, List.length_append, List.length_take, List.length_drop]; omega))⟩))) ?_
          refine AXl.qt rfl (by decide : (38:Nat) < 86) (Still.qt (s_move _)) ?_
          refine AXl.nm_d0 ?_
          refine AXl.nil ?_
          refine hK53 _ ?_
          clear hK53 K53
          refine Ethen.n ?_
          clear hK23 K23
          rw [flds_next l r.fields hk] at hinv; unfold oneP repP at hinv
          first
            | (refine ⟨(k + 1, ver + 1, out ++ [⟨2, k, r.fields[k].tag, 0⟩]), ⟨by omega, ?_⟩, by first | omega | (dsimp only; omega), (by refine ⟨?_, ?_, ?_, ?_, ?_, ?_⟩ <;> (simp [subE, lk, AV.low, C.low, LB.low, Problem.ds, TagRule.ds, Fld.ds, Sub.ds, Rec.ds] <;> fail))⟩
               simp only [hc11, hc29, hc38, hg45, Bool.true_and, Bool.and_true, Bool.not_true, Bool.not_false, Bool.false_and, Bool.and_false, Bool.and_self, if_true, if_false, ↓reduceIte, Bool.false_eq_true, List.nil_append, List.append_assoc] at hinv ⊢
               first | exact hinv | simpa using hinv)
            | (refine ⟨(k + 1, ver + 2, (out ++ [⟨3, k, r.fields[k].tag, 0⟩]) ++ fieldP (getR l r.fields[k].tag) r.fields[k] k), ⟨by omega, ?_⟩, by first | omega | (dsimp only; omega), (by refine ⟨?_, ?_, ?_, ?_, ?_, ?_⟩ <;> (simp [subE, lk, AV.low, C.low, LB.low, Problem.ds, TagRule.ds, Fld.ds, Sub.ds, Rec.ds] <;> fail))⟩
               simp only [hc11, hc29, hc38, hg45, Bool.true_and, Bool.and_true, Bool.not_true, Bool.not_false, Bool.false_and, Bool.and_false, Bool.and_self, if_true, if_false, ↓reduceIte, Bool.false_eq_true, List.nil_append, List.append_assoc] at hinv ⊢
               first | exact hinv | simpa using hinv)
            | (refine ⟨(k + 1, ver + 1, out ++ fieldP (getR l r.fields[k].tag) r.fields[k] k), ⟨by omega, ?_⟩, by first | omega | (dsimp only; omega), (by refine ⟨?_, ?_, ?_, ?_, ?_, ?_⟩ <;> (simp [subE, lk, AV.low, C.low, LB.low, Problem.ds, TagRule.ds, Fld.ds, Sub.ds, Rec.ds] <;> fail))⟩
               simp only [hc11, hc29, hc38, hg45, Bool.true_and, Bool.and_true, Bool.not_true, Bool.not_false, Bool.false_and, Bool.and_false, Bool.and_self, if_true, if_false, ↓reduceIte, Bool.false_eq_true, List.nil_append, List.append_assoc] at hinv ⊢
               first | exact hinv | simpa using hinv)
    · try simp only [decide_eq_true_eq, decide_eq_false_iff_not, Bool.not_eq_true', Bool.not_eq_false', Int.not_lt, Int.not_le, ne_eq, Decidable.not_not, bne_iff_ne, beq_iff_eq, Bool.and_eq_true, Bool.or_eq_true, Bool.and_eq_false_iff, Bool.or_eq_false_iff, Bool.not_not, Ax.u8eq] at hc29
      refine AXc.exit ?_
      refine Ethen.e ?_
      clear hK28 K28
      refine Ethen.e ?_
      refine EinBlock.hit ?_
      refine Ethen.n ?_
      refine hK23 _ ?_
      clear hK23 K23
      refine AXc.seq fun K54 hK54 => ?_
      refine AXc.region' fun K55 hK55 => ?_
      refine AXl.qt rfl (by decide : (85:Nat) < 86) (Still.qt (s_move _)) ?_
      refine AXl.qt rfl (by decide : (4:Nat) < 86) (Still.qt (s_assign _)) ?_
      refine AXl.nm_d0 ?_
      refine AXl.nil ?_
      refine hK55 _ ?_
      clear hK55 K55
      refine Ethen.n ?_
      refine hK54 _ ?_
      clear hK54 K54
      refine AXc.ret ?_
      first
        | refine Fin.ret rfl (rvsOf_own rfl) ?_
        | refine Fin.ret rfl rfl ?_
      rw [drop_end (by omega), fldsP, List.append_nil] at hinv
      rw [hinv]; rfl
/-- The contract of library rules.Sound. -/
theorem c16 {Γ : List (Nat × List D)} (l : List TagRule) (r : Rec) (hl : OkL l) (hf : OkS r.fields) : AFn Tryd.prog Γ 16 [.c (.d (.lst 7 (l.map TagRule.ds))), .agg (r.ds.map C.d)] [.d (.bool (decide ((chkP l r.fields) = [])))] := by
  refine AFn.of_body0 (n := 10) (res := [.tmp 4]) Tryd.func16 (by kernel_rfl) rfl Tryd.ntmps16 (by rw [Tryd.results16]) (by simp) ?_
  simp only [envOf, Nat.reduceAdd]
  refine AXc.seq fun K1 hK1 => ?_
  refine AXc.region' fun K2 hK2 => ?_
  refine AXl.box rfl (by decide : (3:Nat) < 10) ?_
  refine AXl.qt rfl (by decide : (4:Nat) < 10) (Still.qt (s_assign _)) ?_
  refine AXl.nm_d1 ?_
  refine AXl.nil ?_
  refine hK2 _ ?_
  clear hK2 K2
  refine Ethen.n ?_
  refine hK1 _ ?_
  clear hK1 K1
  refine AXc.seq fun K3 hK3 => ?_
  refine AXc.region' fun K4 hK4 => ?_
  refine AXl.qt rfl (by decide : (5:Nat) < 10) (Still.qt (s_move _)) ?_
  refine AXl.nm_d1 ?_
  first
    | refine AXl.qt rfl (by decide : (6:Nat) < 10) (Still.qt (s_loadN _ _ ldT_27_d rfl (by simp [Problem.ds, TagRule.ds, Fld.ds, Sub.ds, Rec.ds]))) ?_
    | refine AXl.qt rfl (by decide : (6:Nat) < 10) (Still.qt (s_loadN_row _ _ ldT_27_d rfl rfl (by first | rfl | exact List.getElem?_eq_getElem (by omega)) (by simp [Problem.ds, TagRule.ds, Fld.ds, Sub.ds, Rec.ds]))) ?_
  refine AXl.nm_d1 ?_
  refine AXl.qt rfl (by decide : (7:Nat) < 10) (q_call (c15 l r hl hf) (.cons (by first | exact ArgOk.d | exact ArgOk.bor rfl | exact ArgOk.agg rfl | exact ArgOk.agg (toDs_map _) | exact ArgOk.nil_bor | exact ArgOk.nil_lst | exact ArgOk.fn | exact ArgOk.ptr rfl rfl | exact ArgOk.aggn rfl (by repeat first | exact .nil | refine .cons (.refl _) ?_ | refine .cons (.nil _) ?_)) (.cons (by first | exact ArgOk.d | exact ArgOk.bor rfl | exact ArgOk.agg rfl | exact ArgOk.agg (toDs_map _) | exact ArgOk.nil_bor | exact ArgOk.nil_lst | exact ArgOk.fn | exact ArgOk.ptr rfl rfl | exact ArgOk.aggn rfl (by repeat first | exact .nil | refine .cons (.refl _) ?_ | refine .cons (.nil _) ?_)) .nil))) ?_
  first
    | refine AXl.qt rfl (by decide : (8:Nat) < 10) (Still.qt (s_len _ _ Tryd.underlying35 rfl)) ?_
    | refine AXl.qt rfl (by decide : (8:Nat) < 10) (Still.qt (s_len_nil _ _ Tryd.underlying35 rfl)) ?_
  refine AXl.qt rfl (by decide : (9:Nat) < 10) (Still.qt (s_icmp _ _ _ _ _ rfl rfl rfl)) ?_
  refine AXl.qt rfl (by decide : (4:Nat) < 10) (Still.qt (s_assign _)) ?_
  refine AXl.nm_d1 ?_
  refine AXl.nil ?_
  refine hK4 _ ?_
  clear hK4 K4
  refine Ethen.n ?_
  refine hK3 _ ?_
  clear hK3 K3
  refine AXc.ret ?_
  refine Fin.ret rfl rfl ?_
  by_cases h : chkP l r.fields = []
  · simp [h]
  · have := List.length_pos_iff.2 h
    simp [h]; try omega
end Go.Proofs
