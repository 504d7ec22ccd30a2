/- Part of a proof about this program; no condition of its own. -/
import Derived.Test.YtjaooadhjmlhnaaDoorRWb
import Derived.Test.YtjaooadhjmlhnaaDoorProg
set_option linter.all false
namespace Go.Proofs
open Go Go.Ax Go.Rl
theorem zC_35_c : zeroC Tryd.prog 35 = some [.d (.raw (.slice none 0 0))] := by kernel_rfl
theorem fdT_45_2_c : fdT Tryd.prog 45 2 = some 2 := by kernel_rfl
theorem ldT_43_c : ldT Tryd.prog 43 = some none := by kernel_rfl
theorem slT_43_c : slT Tryd.prog 43 = some (55, 2) := by kernel_rfl
theorem ldT_55_c : ldT Tryd.prog 55 = some (some 2) := by kernel_rfl
theorem zC_55_c : zeroC Tryd.prog 55 = some [.d (.int .u8 0), .d (.str [])] := by kernel_rfl
theorem sz_55_c : (Tryd.prog.info? 55).map (·.size) = some 2 := by kernel_rfl
theorem fdT_29_3_c : fdT Tryd.prog 29 3 = some 3 := by kernel_rfl
theorem ldT_9_c : ldT Tryd.prog 9 = some none := by kernel_rfl
theorem fdT_55_0_c : fdT Tryd.prog 55 0 = some 0 := by kernel_rfl
theorem ldT_5_c : ldT Tryd.prog 5 = some none := by kernel_rfl
theorem ldT_35_c : ldT Tryd.prog 35 = some none := by kernel_rfl
theorem ldT_3_c : ldT Tryd.prog 3 = some none := by kernel_rfl
theorem fdT_45_0_c : fdT Tryd.prog 45 0 = some 0 := by kernel_rfl
theorem plT_41_c : plT Tryd.prog 41 = some [(0, 1), (1, 1), (2, 1), (3, 1)] := by kernel_rfl
theorem zC_41_c : zeroC Tryd.prog 41 = some [.d (.int .i64 0), .d (.int .i64 0), .d (.str []), .d (.int .u8 0)] := by kernel_rfl
theorem apT_35_c : apT Tryd.prog 35 = some (41, 4, 40) := by kernel_rfl
theorem sz_35_c : (Tryd.prog.info? 35).map (·.size) = some 1 := by kernel_rfl
theorem mixed_c : Tryd.prog.follows .mixedOrders = true := by kernel_rfl
theorem fdT_29_4_c : fdT Tryd.prog 29 4 = some 4 := by kernel_rfl
theorem fdT_29_5_c : fdT Tryd.prog 29 5 = some 5 := by kernel_rfl
theorem fdT_45_3_c : fdT Tryd.prog 45 3 = some 3 := by kernel_rfl
theorem fdT_29_6_c : fdT Tryd.prog 29 6 = some 6 := by kernel_rfl
theorem AXl.nm_c0 {P : Program} {pm : Pm} {ops : Array Oper} {rest : List Oper} {st st' : St} {K : St → Prop} (hk : AXl P pm ops rest st' K) (he : st = st' := by first | (simp only [St.put, putE, U, del, lk, ev, cAV, lkG, rsAV, rvAV, ↓reduceIte, Nat.reduceEqDiff, Nat.reduceAdd, Nat.reduceMul, List.length_map, List.length_cons, List.length_nil, List.getElem_map, Int.toNat_natCast, List.cons_append, List.nil_append, List.set_cons_zero, List.set_cons_succ, splice, List.take_succ_cons, List.take_zero, List.drop_succ_cons, List.drop_zero, Nat.zero_add, Nat.add_zero, List.map_cons, List.map_nil, List.take_nil, List.drop_nil, List.append_nil, Problem.ds, TagRule.ds, Fld.ds, Sub.ds, Rec.ds, indexByte_any, indexByte_any', ← List.map_take, Nat.sub_zero]; done) | (simp only [St.put, putE, U, del, lk, ev, cAV, lkG, rsAV, rvAV, ↓reduceIte, Nat.reduceEqDiff, Nat.reduceAdd, Nat.reduceMul, List.length_map, List.length_cons, List.length_nil, List.getElem_map, Int.toNat_natCast, List.cons_append, List.nil_append, List.set_cons_zero, List.set_cons_succ, splice, List.take_succ_cons, List.take_zero, List.drop_succ_cons, List.drop_zero, Nat.zero_add, Nat.add_zero, List.map_cons, List.map_nil, List.take_nil, List.drop_nil, List.append_nil, Problem.ds, TagRule.ds, Fld.ds, Sub.ds, Rec.ds, indexByte_any, indexByte_any', ← List.map_take, Nat.sub_zero]; rfl) | rfl) : AXl P pm ops rest st K := he ▸ hk
theorem AXd.nm_c0 {P : Program} {pm : Pm} {h : List LB} {ops : Array Oper} {pre : List Oper} {ρ ρ' : List (Nat × AV)} {Kd : List (Nat × AV) → Prop} (hk : AXd P pm h ops pre ρ' Kd) (he : ρ = ρ' := by first | (simp only [St.put, putE, U, del, lk, ev, cAV, lkG, rsAV, rvAV, ↓reduceIte, Nat.reduceEqDiff, Nat.reduceAdd, Nat.reduceMul, List.length_map, List.length_cons, List.length_nil, List.getElem_map, Int.toNat_natCast, List.cons_append, List.nil_append, List.set_cons_zero, List.set_cons_succ, splice, List.take_succ_cons, List.take_zero, List.drop_succ_cons, List.drop_zero, Nat.zero_add, Nat.add_zero, List.map_cons, List.map_nil, List.take_nil, List.drop_nil, List.append_nil, Problem.ds, TagRule.ds, Fld.ds, Sub.ds, Rec.ds, indexByte_any, indexByte_any', ← List.map_take, Nat.sub_zero]; done) | (simp only [St.put, putE, U, del, lk, ev, cAV, lkG, rsAV, rvAV, ↓reduceIte, Nat.reduceEqDiff, Nat.reduceAdd, Nat.reduceMul, List.length_map, List.length_cons, List.length_nil, List.getElem_map, Int.toNat_natCast, List.cons_append, List.nil_append, List.set_cons_zero, List.set_cons_succ, splice, List.take_succ_cons, List.take_zero, List.drop_succ_cons, List.drop_zero, Nat.zero_add, Nat.add_zero, List.map_cons, List.map_nil, List.take_nil, List.drop_nil, List.append_nil, Problem.ds, TagRule.ds, Fld.ds, Sub.ds, Rec.ds, indexByte_any, indexByte_any', ← List.map_take, Nat.sub_zero]; rfl) | rfl) : AXd P pm h ops pre ρ Kd := he ▸ hk
set_option maxHeartbeats 1600000 in
/-- The contract of library rules.field. -/
theorem c31 {Γ : List (Nat × List D)} (x : TagRule) (f : Fld) (i : Int) (hx : OkR x) (hf : OkF f) : AFn Tryd.prog Γ 31 [.agg (x.ds.map C.d), .agg (f.ds.map C.d), .c (.d (.int .i64 i))] [.fresh 41 4 ((fieldP x f i).map Problem.ds)] := by
  have hs := hf.subs
  have hn := hx.needs
  have h60 := subP_len x f.tag i f.subs []
  have h61 := needP_len f.tag i f.subs x.needs
  refine AFn.of_body1 (n := 83) (r := .tmp 6) 4 Tryd.func31 (by kernel_rfl) rfl Tryd.ntmps31 (by rw [Tryd.results31]) (by simp) ?_
  simp only [envOf, Nat.reduceAdd]
  refine AXc.seq fun K1 hK1 => ?_
  refine AXc.region' fun K2 hK2 => ?_
  refine AXl.box rfl (by decide : (3:Nat) < 83) ?_
  refine AXl.box rfl (by decide : (4:Nat) < 83) ?_
  refine AXl.box rfl (by decide : (5:Nat) < 83) ?_
  refine AXl.qt rfl (by decide : (6:Nat) < 83) (Still.qt (s_assign _)) ?_
  refine AXl.nm_c0 ?_
  refine AXl.nil ?_
  refine hK2 _ ?_
  clear hK2 K2
  refine Ethen.n ?_
  refine hK1 _ ?_
  clear hK1 K1
  refine AXc.seq fun K3 hK3 => ?_
  refine AXc.region' fun K4 hK4 => ?_
  refine AXl.alloc zC_35_c (by decide : (7:Nat) < 83) ?_
  refine AXl.nm_c0 ?_
  refine AXl.nil ?_
  refine hK4 _ ?_
  clear hK4 K4
  refine Ethen.n ?_
  refine hK3 _ ?_
  clear hK3 K3
  refine AXc.seq fun K5 hK5 => ?_
  refine AXc.region' fun K6 hK6 => ?_
  refine AXl.qt rfl (by decide : (12:Nat) < 83) (Still.qt (s_makeFunc' _ _ rfl)) ?_
  refine AXl.qt rfl (by decide : (8:Nat) < 83) (Still.qt (s_assign _)) ?_
  refine AXl.nm_c0 ?_
  refine AXl.nil ?_
  refine hK6 _ ?_
  clear hK6 K6
  refine Ethen.n ?_
  refine hK5 _ ?_
  clear hK5 K5
  refine AXc.seq fun K7 hK7 => ?_
  refine AXc.seq fun K8 hK8 => ?_
  refine AXc.region' fun K9 hK9 => ?_
  first
    | refine AXl.qt rfl (by decide : (13:Nat) < 83) (Still.qt (s_field_loc _ _ _ fdT_45_2_c rfl)) ?_
    | refine AXl.qt rfl (by decide : (13:Nat) < 83) (Still.qt (s_field_ptr _ _ _ fdT_45_2_c rfl)) ?_
    | refine AXl.qt rfl (by decide : (13:Nat) < 83) (Still.qt (s_field_row _ _ _ fdT_45_2_c rfl rfl)) ?_
  first
    | refine AXl.qt rfl (by decide : (14:Nat) < 83) (Still.qt (s_load1 _ _ ldT_43_c rfl)) ?_
    | refine AXl.qt rfl (by decide : (14:Nat) < 83) (Still.qt (s_load1_row _ _ ldT_43_c rfl rfl (by first | rfl | exact List.getElem?_eq_getElem (by omega)) rfl)) ?_
  first
    | refine AXl.qt rfl (by decide : (15:Nat) < 83) (Still.qt (s_len _ _ Tryd.underlying43 rfl)) ?_
    | refine AXl.qt rfl (by decide : (15:Nat) < 83) (Still.qt (s_len_nil _ _ Tryd.underlying43 rfl)) ?_
  refine AXl.qt rfl (by decide : (16:Nat) < 83) (Still.qt (s_move _)) ?_
  refine AXl.nm_c0 ?_
  refine AXl.nil ?_
  refine hK9 _ ?_
  clear hK9 K9
  refine Ethen.n ?_
  refine hK8 _ ?_
  clear hK8 K8
  refine AXc.block ?_
  refine AXc.nilbox 3 0 41 4 rfl rfl ?_
  simp only [St.put, putE, U, del, lk, ev, cAV, lkG, rsAV, rvAV, ↓reduceIte, Nat.reduceEqDiff, Nat.reduceAdd, Nat.reduceMul, List.length_map, List.length_cons, List.length_nil, List.getElem_map, Int.toNat_natCast, List.cons_append, List.nil_append, List.set_cons_zero, List.set_cons_succ, splice, List.take_succ_cons, List.take_zero, List.drop_succ_cons, List.drop_zero, Nat.zero_add, Nat.add_zero, List.map_cons, List.map_nil, List.take_nil, List.drop_nil, List.append_nil]
  refine AXc.loop (S := Nat × Nat × List Problem) (fun ⟨k, ver, out⟩ => ⟨[(3, .c (.loc 0 0)), (4, .c (.loc 1 0)), (5, .c (.loc 2 0)), (7, .c (.loc 3 0)), (8, .c (.clo 36 [3, 2, 1])), (14, .c (.d (.lst 2 (f.subs.map Sub.ds)))), (15, .c (.d (.int .i64 f.subs.length))), (16, .c (.d (.int .i64 k)))], [.box 29 (x.ds.map C.d), .box 45 (f.ds.map C.d), .box 3 [.d (dI i)], .box 35 [.own 4 ver], .row 41 4 (out.map Problem.ds) ver]⟩) (fun ⟨k, ver, out⟩ => k ≤ f.subs.length ∧ out ++ subP x f.tag i (f.subs.take k) (f.subs.drop k) = subP x f.tag i [] f.subs) (fun ⟨k, ver, out⟩ => f.subs.length - k) (0, 0, []) ⟨by omega, by simp⟩ (by refine ⟨?_, ?_, ?_, ?_, ?_, ?_⟩ <;> (simp [subE, lk, AV.low, C.low, LB.low, Problem.ds, TagRule.ds, Fld.ds, Sub.ds, Rec.ds] <;> fail)) ?_
  rintro ⟨k, ver, out⟩ ⟨hk0, hinv⟩
  have hb := congrArg List.length hinv; rw [List.length_append] at hb
  try simp only [Problem.ds, TagRule.ds, Fld.ds, Sub.ds, Rec.ds, indexByte_any, indexByte_any', ← List.map_take, Nat.sub_zero, List.map_cons, List.map_nil]
  refine AXc.seq fun K10 hK10 => ?_
  refine AXc.region' fun K11 hK11 => ?_
  refine AXl.qt rfl (by decide : (17:Nat) < 83) (Still.qt (s_icmp _ _ _ _ _ rfl rfl rfl)) ?_
  refine AXl.nm_c0 ?_
  refine AXl.nil ?_
  refine hK11 _ ?_
  clear hK11 K11
  refine Ethen.n ?_
  refine hK10 _ ?_
  clear hK10 K10
  refine AXc.seq fun K12 hK12 => ?_
  refine AXc.cond rfl (fun hc13 => ?_) (fun hc13 => ?_)
  · try simp only [decide_eq_true_eq, decide_eq_false_iff_not, Bool.not_eq_true', Bool.not_eq_false', Int.not_lt, Int.not_le, ne_eq, Decidable.not_not, bne_iff_ne, beq_iff_eq, Bool.and_eq_true, Bool.or_eq_true, Bool.and_eq_false_iff, Bool.or_eq_false_iff, Bool.not_not, Ax.u8eq] at hc13
    have hk : k < f.subs.length := by omega
    refine AXc.skip ?_
    refine Ethen.n ?_
    refine hK12 _ ?_
    clear hK12 K12
    refine AXc.seq fun K14 hK14 => ?_
    refine AXc.block ?_
    refine AXc.seq fun K15 hK15 => ?_
    refine AXc.region' fun K16 hK16 => ?_
    refine AXl.qt rfl (by decide : (18:Nat) < 83) (Still.qt (s_move _)) ?_
    first
      | refine AXl.qt rfl (by decide : (19:Nat) < 83) (Still.qt (s_index _ _ _ slT_43_c (.inl rfl) rfl rfl (by first | omega | (simp only [List.length_map, List.length_cons, List.length_nil, List.length_append, List.length_take, List.length_drop]; omega)) (List.getElem?_eq_getElem (by first | omega | (simp only [List.length_map, List.length_cons, List.length_nil, List.length_append, List.length_take, List.length_drop]; omega))))) ?_
      | refine AXl.qt rfl (by decide : (19:Nat) < 83) (Still.qt (s_index _ _ _ slT_43_c (.inr rfl) rfl rfl (by first | omega | (simp only [List.length_map, List.length_cons, List.length_nil, List.length_append, List.length_take, List.length_drop]; omega)) (List.getElem?_eq_getElem (by first | omega | (simp only [List.length_map, List.length_cons, List.length_nil, List.length_append, List.length_take, List.length_drop]; omega))))) ?_
      | refine AXl.qt rfl (by decide : (19:Nat) < 83) (Still.qt (s_index_own _ _ _ slT_43_c rfl rfl rfl rfl (by first | omega | (simp only [List.length_map, List.length_cons, List.length_nil, List.length_append, List.length_take, List.length_drop]; omega)) (by first | omega | (simp only [List.length_map, List.length_cons, List.length_nil, List.length_append, List.length_take, List.length_drop]; omega)))) ?_
    refine AXl.nm_c0 ?_
    first
      | refine AXl.qt rfl (by decide : (20:Nat) < 83) (Still.qt (s_loadN _ _ ldT_55_c rfl (by simp [Problem.ds, TagRule.ds, Fld.ds, Sub.ds, Rec.ds]))) ?_
      | refine AXl.qt rfl (by decide : (20:Nat) < 83) (Still.qt (s_loadN_row _ _ ldT_55_c rfl rfl (by first | rfl | exact List.getElem?_eq_getElem (by omega)) (by simp [Problem.ds, TagRule.ds, Fld.ds, Sub.ds, Rec.ds]))) ?_
    refine AXl.alloc zC_55_c (by decide : (10:Nat) < 83) ?_
    refine AXl.qt rfl (by decide : (9:Nat) < 83) (Still.qt (s_assign _)) ?_
    refine AXl.nm_c0 ?_
    first
      | refine AXl.store rfl rfl rfl sz_55_c (by simp [Problem.ds, TagRule.ds, Fld.ds, Sub.ds, Rec.ds]) rfl ?_
      | refine AXl.store_row rfl rfl (by first | rfl | exact List.getElem?_eq_getElem (by omega)) rfl sz_55_c (by simp [Problem.ds, TagRule.ds, Fld.ds, Sub.ds, Rec.ds]) rfl ?_
    refine AXl.nm_c0 ?_
    refine AXl.nil ?_
    refine hK16 _ ?_
    clear hK16 K16
    refine Ethen.n ?_
    refine hK15 _ ?_
    clear hK15 K15
    refine AXc.seq fun K17 hK17 => ?_
    refine AXc.region' fun K18 hK18 => ?_
    first
      | refine AXl.qt rfl (by decide : (21:Nat) < 83) (Still.qt (s_field_loc _ _ _ fdT_29_3_c rfl)) ?_
      | refine AXl.qt rfl (by decide : (21:Nat) < 83) (Still.qt (s_field_ptr _ _ _ fdT_29_3_c rfl)) ?_
      | refine AXl.qt rfl (by decide : (21:Nat) < 83) (Still.qt (s_field_row _ _ _ fdT_29_3_c rfl rfl)) ?_
    first
      | refine AXl.qt rfl (by decide : (22:Nat) < 83) (Still.qt (s_load1 _ _ ldT_9_c rfl)) ?_
      | refine AXl.qt rfl (by decide : (22:Nat) < 83) (Still.qt (s_load1_row _ _ ldT_9_c rfl rfl (by first | rfl | exact List.getElem?_eq_getElem (by omega)) rfl)) ?_
    first
      | refine AXl.qt rfl (by decide : (23:Nat) < 83) (Still.qt (s_field_loc _ _ _ fdT_55_0_c rfl)) ?_
      | refine AXl.qt rfl (by decide : (23:Nat) < 83) (Still.qt (s_field_ptr _ _ _ fdT_55_0_c rfl)) ?_
      | refine AXl.qt rfl (by decide : (23:Nat) < 83) (Still.qt (s_field_row _ _ _ fdT_55_0_c rfl rfl)) ?_
    first
      | refine AXl.qt rfl (by decide : (24:Nat) < 83) (Still.qt (s_load1 _ _ ldT_5_c rfl)) ?_
      | refine AXl.qt rfl (by decide : (24:Nat) < 83) (Still.qt (s_load1_row _ _ ldT_5_c rfl rfl (by first | rfl | exact List.getElem?_eq_getElem (by omega)) rfl)) ?_
    refine AXl.nm_c0 ?_
    refine AXl.qt rfl (by decide : (25:Nat) < 83) (q_call (c37 _ _) (.cons (by first | exact ArgOk.d | exact ArgOk.bor rfl | exact ArgOk.agg rfl | exact ArgOk.agg (toDs_map _) | exact ArgOk.nil_bor | exact ArgOk.nil_lst | exact ArgOk.fn | exact ArgOk.ptr rfl rfl | exact ArgOk.aggn rfl (by repeat first | exact .nil | refine .cons (.refl _) ?_ | refine .cons (.nil _) ?_)) (.cons (by first | exact ArgOk.d | exact ArgOk.bor rfl | exact ArgOk.agg rfl | exact ArgOk.agg (toDs_map _) | exact ArgOk.nil_bor | exact ArgOk.nil_lst | exact ArgOk.fn | exact ArgOk.ptr rfl rfl | exact ArgOk.aggn rfl (by repeat first | exact .nil | refine .cons (.refl _) ?_ | refine .cons (.nil _) ?_)) .nil))) ?_
    refine AXl.qt rfl (by decide : (26:Nat) < 83) (Still.qt (s_icmp _ _ _ _ _ rfl rfl rfl)) ?_
    refine AXl.nm_c0 ?_
    refine AXl.nil ?_
    refine hK18 _ ?_
    clear hK18 K18
    refine Ethen.n ?_
    refine hK17 _ ?_
    clear hK17 K17
    refine AXc.cond rfl (fun hc19 => ?_) (fun hc19 => ?_)
    · try simp only [decide_eq_true_eq, decide_eq_false_iff_not, Bool.not_eq_true', Bool.not_eq_false', Int.not_lt, Int.not_le, ne_eq, Decidable.not_not, bne_iff_ne, beq_iff_eq, Bool.and_eq_true, Bool.or_eq_true, Bool.and_eq_false_iff, Bool.or_eq_false_iff, Bool.not_not, Ax.u8eq] at hc19
      refine AXc.region' fun K20 hK20 => ?_
      refine AXl.qt rfl (by decide : (27:Nat) < 83) (Still.qt (s_move _)) ?_
      first
        | refine AXl.qt rfl (by decide : (28:Nat) < 83) (Still.qt (s_field_loc _ _ _ fdT_55_0_c rfl)) ?_
        | refine AXl.qt rfl (by decide : (28:Nat) < 83) (Still.qt (s_field_ptr _ _ _ fdT_55_0_c rfl)) ?_
        | refine AXl.qt rfl (by decide : (28:Nat) < 83) (Still.qt (s_field_row _ _ _ fdT_55_0_c rfl rfl)) ?_
      first
        | refine AXl.qt rfl (by decide : (29:Nat) < 83) (Still.qt (s_load1 _ _ ldT_5_c rfl)) ?_
        | refine AXl.qt rfl (by decide : (29:Nat) < 83) (Still.qt (s_load1_row _ _ ldT_5_c rfl rfl (by first | rfl | exact List.getElem?_eq_getElem (by omega)) rfl)) ?_
      refine AXl.nm_c0 ?_
      refine AXl.inline (f := 36) Tryd.func36 (by kernel_rfl) rfl rfl (by rw [Tryd.ntmps36]; simp) (by decide : (30:Nat) < 83) ?_
      rw [Tryd.ntmps36, Tryd.results36]
      simp only [envOf, List.map_cons, List.map_nil, List.cons_append, List.nil_append, ev, lk, cAV, ↓reduceIte, Nat.reduceEqDiff, Nat.reduceAdd, List.length_cons, List.length_nil]
      refine AXc.region' fun K21 hK21 => ?_
      first
        | refine AXl.qt rfl (by decide : (7:Nat) < 16) (Still.qt (s_load1 _ _ ldT_35_c rfl)) ?_
        | refine AXl.qt rfl (by decide : (7:Nat) < 16) (Still.qt (s_load1_row _ _ ldT_35_c rfl rfl (by first | rfl | exact List.getElem?_eq_getElem (by omega)) rfl)) ?_
      refine AXl.qt rfl (by decide : (8:Nat) < 16) (Still.qt (s_move _)) ?_
      first
        | refine AXl.qt rfl (by decide : (9:Nat) < 16) (Still.qt (s_load1 _ _ ldT_3_c rfl)) ?_
        | refine AXl.qt rfl (by decide : (9:Nat) < 16) (Still.qt (s_load1_row _ _ ldT_3_c rfl rfl (by first | rfl | exact List.getElem?_eq_getElem (by omega)) rfl)) ?_
      first
        | refine AXl.qt rfl (by decide : (10:Nat) < 16) (Still.qt (s_field_loc _ _ _ fdT_45_0_c rfl)) ?_
        | refine AXl.qt rfl (by decide : (10:Nat) < 16) (Still.qt (s_field_ptr _ _ _ fdT_45_0_c rfl)) ?_
        | refine AXl.qt rfl (by decide : (10:Nat) < 16) (Still.qt (s_field_row _ _ _ fdT_45_0_c rfl rfl)) ?_
      first
        | refine AXl.qt rfl (by decide : (11:Nat) < 16) (Still.qt (s_load1 _ _ ldT_9_c rfl)) ?_
        | refine AXl.qt rfl (by decide : (11:Nat) < 16) (Still.qt (s_load1_row _ _ ldT_9_c rfl rfl (by first | rfl | exact List.getElem?_eq_getElem (by omega)) rfl)) ?_
      refine AXl.qt rfl (by decide : (12:Nat) < 16) (Still.qt (s_move _)) ?_
      refine AXl.nm_c0 ?_
      refine AXl.qt rfl (by decide : (13:Nat) < 16) (Still.qt (s_build _ _ plT_41_c zC_41_c rfl)) ?_
      refine AXl.qt rfl (by decide : (14:Nat) < 16) (q_buildSlice _ _ _ apT_35_c rfl rfl (by decide)) ?_
      first
        | refine AXl.append apT_35_c rfl rfl rfl (by simp only [List.length_append, List.length_map, List.length_cons, List.length_nil]; omega) (by simp only [List.length_append, List.length_map, List.length_cons, List.length_nil]; omega) (by decide : (15:Nat) < 16) ?_
        | refine AXl.append_nil apT_35_c rfl (by decide) rfl (by simp only [List.length_append, List.length_map, List.length_cons, List.length_nil]; omega) (by simp only [List.length_append, List.length_map, List.length_cons, List.length_nil]; omega) (by decide : (15:Nat) < 16) ?_
      refine AXl.nm_c0 ?_
      first
        | refine AXl.store rfl rfl rfl sz_35_c (by simp [Problem.ds, TagRule.ds, Fld.ds, Sub.ds, Rec.ds]) rfl ?_
        | refine AXl.store_row rfl rfl (by first | rfl | exact List.getElem?_eq_getElem (by omega)) rfl sz_35_c (by simp [Problem.ds, TagRule.ds, Fld.ds, Sub.ds, Rec.ds]) rfl ?_
      refine AXl.nm_c0 ?_
      refine AXl.nil ?_
      refine hK21 _ ?_
      clear hK21 K21
      refine ⟨.inr rfl, _, rfl, ?_⟩
      refine AXl.nm_c0 ?_
      refine AXl.nil ?_
      refine hK20 _ ?_
      clear hK20 K20
      refine EinBlock.n ?_
      refine Ethen.n ?_
      refine hK14 _ ?_
      clear hK14 K14
      refine AXc.region' fun K22 hK22 => ?_
      refine AXl.qt rfl (by decide : (50:Nat) < 83) (Still.qt (s_iar _ _ _ _ _ rfl rfl rfl (IntWalk.i64_in _ ⟨(by first | omega | (simp only [List.length_map, List.length_cons, List.length_nil, List.length_append, List.length_take, List.length_drop]; omega)), (by first | omega | (simp only [List.length_map, List.length_cons, List.length_nil, List.length_append, List.length_take, List.length_drop]; omega))⟩))) ?_
      refine AXl.qt rfl (by decide : (16:Nat) < 83) (Still.qt (s_move _)) ?_
      refine AXl.nm_c0 ?_
      refine AXl.nil ?_
      refine hK22 _ ?_
      clear hK22 K22
      refine Ethen.n ?_
      clear hK7 K7
      rw [sub_next x f.tag i f.subs hk] at hinv
      first
        | (refine ⟨(k + 1, ver + 1, out ++ [⟨4, i, f.tag, f.subs[k].code⟩]), ⟨by omega, ?_⟩, by first | omega | (dsimp only; omega), (by refine ⟨?_, ?_, ?_, ?_, ?_, ?_⟩ <;> (simp [subE, lk, AV.low, C.low, LB.low, Problem.ds, TagRule.ds, Fld.ds, Sub.ds, Rec.ds] <;> fail))⟩
           simp only [hc13, hc19, Bool.true_and, Bool.and_true, Bool.not_true, Bool.not_false, Bool.false_and, Bool.and_false, Bool.and_self, if_true, if_false, ↓reduceIte, Bool.false_eq_true, List.nil_append, List.append_assoc] at hinv ⊢
           exact hinv)
        | (refine ⟨(k + 1, ver + 1, out ++ [⟨5, i, f.tag, f.subs[k].code⟩]), ⟨by omega, ?_⟩, by first | omega | (dsimp only; omega), (by refine ⟨?_, ?_, ?_, ?_, ?_, ?_⟩ <;> (simp [subE, lk, AV.low, C.low, LB.low, Problem.ds, TagRule.ds, Fld.ds, Sub.ds, Rec.ds] <;> fail))⟩
           simp only [hc13, hc19, Bool.true_and, Bool.and_true, Bool.not_true, Bool.not_false, Bool.false_and, Bool.and_false, Bool.and_self, if_true, if_false, ↓reduceIte, Bool.false_eq_true, List.nil_append, List.append_assoc] at hinv ⊢
           exact hinv)
        | (refine ⟨(k + 1, ver, out), ⟨by omega, ?_⟩, by first | omega | (dsimp only; omega), (by refine ⟨?_, ?_, ?_, ?_, ?_, ?_⟩ <;> (simp [subE, lk, AV.low, C.low, LB.low, Problem.ds, TagRule.ds, Fld.ds, Sub.ds, Rec.ds] <;> fail))⟩
           simp only [hc13, hc19, Bool.true_and, Bool.and_true, Bool.not_true, Bool.not_false, Bool.false_and, Bool.and_false, Bool.and_self, if_true, if_false, ↓reduceIte, Bool.false_eq_true, List.nil_append, List.append_assoc] at hinv ⊢
           exact hinv)
    · try simp only [decide_eq_true_eq, decide_eq_false_iff_not, Bool.not_eq_true', Bool.not_eq_false', Int.not_lt, Int.not_le, ne_eq, Decidable.not_not, bne_iff_ne, beq_iff_eq, Bool.and_eq_true, Bool.or_eq_true, Bool.and_eq_false_iff, Bool.or_eq_false_iff, Bool.not_not, Ax.u8eq] at hc19
      refine AXc.seq fun K23 hK23 => ?_
      refine AXc.draw' mixed_c 15 (by kernel_rfl) fun K24 hK24 => ?_
      simp only [List.take_succ_cons, List.take_zero, List.take_nil, List.drop_succ_cons, List.drop_zero, List.drop_nil]
      first
        | refine AXd.op rfl (Still.qt (s_field_loc _ _ _ fdT_29_4_c rfl)) ?_
        | refine AXd.op rfl (Still.qt (s_field_ptr _ _ _ fdT_29_4_c rfl)) ?_
        | refine AXd.op rfl (Still.qt (s_field_row _ _ _ fdT_29_4_c rfl rfl)) ?_
      first
        | refine AXd.op rfl (Still.qt (s_load1 _ _ ldT_9_c rfl)) ?_
        | refine AXd.op rfl (Still.qt (s_load1_row _ _ ldT_9_c rfl rfl (by first | rfl | exact List.getElem?_eq_getElem (by omega)) rfl)) ?_
      first
        | refine AXd.op rfl (Still.qt (s_field_loc _ _ _ fdT_55_0_c rfl)) ?_
        | refine AXd.op rfl (Still.qt (s_field_ptr _ _ _ fdT_55_0_c rfl)) ?_
        | refine AXd.op rfl (Still.qt (s_field_row _ _ _ fdT_55_0_c rfl rfl)) ?_
      first
        | refine AXd.op rfl (Still.qt (s_load1 _ _ ldT_5_c rfl)) ?_
        | refine AXd.op rfl (Still.qt (s_load1_row _ _ ldT_5_c rfl rfl (by first | rfl | exact List.getElem?_eq_getElem (by omega)) rfl)) ?_
      refine AXd.nm_c0 ?_
      refine AXd.op rfl (q_call (c37 _ _) (.cons (by first | exact ArgOk.d | exact ArgOk.bor rfl | exact ArgOk.agg rfl | exact ArgOk.agg (toDs_map _) | exact ArgOk.nil_bor | exact ArgOk.nil_lst | exact ArgOk.fn | exact ArgOk.ptr rfl rfl | exact ArgOk.aggn rfl (by repeat first | exact .nil | refine .cons (.refl _) ?_ | refine .cons (.nil _) ?_)) (.cons (by first | exact ArgOk.d | exact ArgOk.bor rfl | exact ArgOk.agg rfl | exact ArgOk.agg (toDs_map _) | exact ArgOk.nil_bor | exact ArgOk.nil_lst | exact ArgOk.fn | exact ArgOk.ptr rfl rfl | exact ArgOk.aggn rfl (by repeat first | exact .nil | refine .cons (.refl _) ?_ | refine .cons (.nil _) ?_)) .nil))) ?_
      refine AXd.op rfl (Still.qt (s_icmp _ _ _ _ _ rfl rfl rfl)) ?_
      refine AXd.op rfl (Still.qt (s_move _)) ?_
      refine AXd.nm_c0 ?_
      refine AXd.split 37 _ rfl (fun hg25 => ?_) (fun hg25 => ?_)
      · try simp only [decide_eq_true_eq, decide_eq_false_iff_not, Bool.not_eq_true', Bool.not_eq_false', Int.not_lt, Int.not_le, ne_eq, Decidable.not_not, bne_iff_ne, beq_iff_eq, Bool.and_eq_true, Bool.or_eq_true, Bool.and_eq_false_iff, Bool.or_eq_false_iff, Bool.not_not, Ax.u8eq] at hg25
        simp only [del, ↓reduceIte, Nat.reduceEqDiff]
        first
          | refine AXd.op rfl (Still.qt (s_field_loc _ _ _ fdT_45_2_c rfl)) ?_
          | refine AXd.op rfl (Still.qt (s_field_ptr _ _ _ fdT_45_2_c rfl)) ?_
          | refine AXd.op rfl (Still.qt (s_field_row _ _ _ fdT_45_2_c rfl rfl)) ?_
        first
          | refine AXd.op rfl (Still.qt (s_load1 _ _ ldT_43_c rfl)) ?_
          | refine AXd.op rfl (Still.qt (s_load1_row _ _ ldT_43_c rfl rfl (by first | rfl | exact List.getElem?_eq_getElem (by omega)) rfl)) ?_
        refine AXd.op rfl (Still.qt (s_move _)) ?_
        refine AXd.nm_c0 ?_
        first
          | refine AXd.op rfl (Still.qt (s_slice_lst _ _ _ _ slT_43_c rfl rfl rfl ⟨_, _, rfl, (by first | omega | (simp only [List.length_map, List.length_cons, List.length_nil, List.length_append, List.length_take, List.length_drop]; omega)), rfl⟩ (by first | omega | (simp only [List.length_map, List.length_cons, List.length_nil, List.length_append, List.length_take, List.length_drop]; omega)) (by first | omega | (simp only [List.length_map, List.length_cons, List.length_nil, List.length_append, List.length_take, List.length_drop]; omega)))) ?_
          | refine AXd.op rfl (Still.qt (s_slice_bor _ _ _ _ slT_43_c rfl rfl rfl ⟨_, _, rfl, (by first | omega | (simp only [List.length_map, List.length_cons, List.length_nil, List.length_append, List.length_take, List.length_drop]; omega)), rfl⟩ (by first | omega | (simp only [List.length_map, List.length_cons, List.length_nil, List.length_append, List.length_take, List.length_drop]; omega)) (by first | omega | (simp only [List.length_map, List.length_cons, List.length_nil, List.length_append, List.length_take, List.length_drop]; omega)))) ?_
          | refine AXd.op rfl (Still.qt (s_slice_own _ _ _ _ slT_43_c rfl rfl rfl rfl ⟨_, _, rfl, (by first | omega | (simp only [List.length_map, List.length_cons, List.length_nil, List.length_append, List.length_take, List.length_drop]; omega)), rfl⟩ (by first | omega | (simp only [List.length_map, List.length_cons, List.length_nil, List.length_append, List.length_take, List.length_drop]; omega)) (by first | omega | (simp only [List.length_map, List.length_cons, List.length_nil, List.length_append, List.length_take, List.length_drop]; omega)))) ?_
        first
          | refine AXd.op rfl (Still.qt (s_field_loc _ _ _ fdT_55_0_c rfl)) ?_
          | refine AXd.op rfl (Still.qt (s_field_ptr _ _ _ fdT_55_0_c rfl)) ?_
          | refine AXd.op rfl (Still.qt (s_field_row _ _ _ fdT_55_0_c rfl rfl)) ?_
        first
          | refine AXd.op rfl (Still.qt (s_load1 _ _ ldT_5_c rfl)) ?_
          | refine AXd.op rfl (Still.qt (s_load1_row _ _ ldT_5_c rfl rfl (by first | rfl | exact List.getElem?_eq_getElem (by omega)) rfl)) ?_
        refine AXd.nm_c0 ?_
        refine AXd.op rfl (q_call (c38 _ _ ?hs) (.cons (by first | exact ArgOk.d | exact ArgOk.bor rfl | exact ArgOk.agg rfl | exact ArgOk.agg (toDs_map _) | exact ArgOk.nil_bor | exact ArgOk.nil_lst | exact ArgOk.fn | exact ArgOk.ptr rfl rfl | exact ArgOk.aggn rfl (by repeat first | exact .nil | refine .cons (.refl _) ?_ | refine .cons (.nil _) ?_)) (.cons (by first | exact ArgOk.d | exact ArgOk.bor rfl | exact ArgOk.agg rfl | exact ArgOk.agg (toDs_map _) | exact ArgOk.nil_bor | exact ArgOk.nil_lst | exact ArgOk.fn | exact ArgOk.ptr rfl rfl | exact ArgOk.aggn rfl (by repeat first | exact .nil | refine .cons (.refl _) ?_ | refine .cons (.nil _) ?_)) .nil))) ?_
        case hs => first | omega | (rw [List.length_take]; omega)
        refine AXd.op rfl (Still.qt (s_pick_t _ _ _ rfl)) ?_
        refine AXd.nm_c0 ?_
        refine AXd.nil ?_
        refine AXl.nil ?_
        refine hK24 _ ?_
        clear hK24 K24
        refine Ethen.n ?_
        refine hK23 _ ?_
        clear hK23 K23
        refine AXc.cond rfl (fun hc26 => ?_) (fun hc26 => ?_)
        · try simp only [decide_eq_true_eq, decide_eq_false_iff_not, Bool.not_eq_true', Bool.not_eq_false', Int.not_lt, Int.not_le, ne_eq, Decidable.not_not, bne_iff_ne, beq_iff_eq, Bool.and_eq_true, Bool.or_eq_true, Bool.and_eq_false_iff, Bool.or_eq_false_iff, Bool.not_not, Ax.u8eq] at hc26
          refine AXc.region' fun K27 hK27 => ?_
          refine AXl.qt rfl (by decide : (46:Nat) < 83) (Still.qt (s_move _)) ?_
          first
            | refine AXl.qt rfl (by decide : (47:Nat) < 83) (Still.qt (s_field_loc _ _ _ fdT_55_0_c rfl)) ?_
            | refine AXl.qt rfl (by decide : (47:Nat) < 83) (Still.qt (s_field_ptr _ _ _ fdT_55_0_c rfl)) ?_
            | refine AXl.qt rfl (by decide : (47:Nat) < 83) (Still.qt (s_field_row _ _ _ fdT_55_0_c rfl rfl)) ?_
          first
            | refine AXl.qt rfl (by decide : (48:Nat) < 83) (Still.qt (s_load1 _ _ ldT_5_c rfl)) ?_
            | refine AXl.qt rfl (by decide : (48:Nat) < 83) (Still.qt (s_load1_row _ _ ldT_5_c rfl rfl (by first | rfl | exact List.getElem?_eq_getElem (by omega)) rfl)) ?_
          refine AXl.nm_c0 ?_
          refine AXl.inline (f := 36) Tryd.func36 (by kernel_rfl) rfl rfl (by rw [Tryd.ntmps36]; simp) (by decide : (49:Nat) < 83) ?_
          rw [Tryd.ntmps36, Tryd.results36]
          simp only [envOf, List.map_cons, List.map_nil, List.cons_append, List.nil_append, ev, lk, cAV, ↓reduceIte, Nat.reduceEqDiff, Nat.reduceAdd, List.length_cons, List.length_nil]
          refine AXc.region' fun K28 hK28 => ?_
          first
            | refine AXl.qt rfl (by decide : (7:Nat) < 16) (Still.qt (s_load1 _ _ ldT_35_c rfl)) ?_
            | refine AXl.qt rfl (by decide : (7:Nat) < 16) (Still.qt (s_load1_row _ _ ldT_35_c rfl rfl (by first | rfl | exact List.getElem?_eq_getElem (by omega)) rfl)) ?_
          refine AXl.qt rfl (by decide : (8:Nat) < 16) (Still.qt (s_move _)) ?_
          first
            | refine AXl.qt rfl (by decide : (9:Nat) < 16) (Still.qt (s_load1 _ _ ldT_3_c rfl)) ?_
            | refine AXl.qt rfl (by decide : (9:Nat) < 16) (Still.qt (s_load1_row _ _ ldT_3_c rfl rfl (by first | rfl | exact List.getElem?_eq_getElem (by omega)) rfl)) ?_
          first
            | refine AXl.qt rfl (by decide : (10:Nat) < 16) (Still.qt (s_field_loc _ _ _ fdT_45_0_c rfl)) ?_
            | refine AXl.qt rfl (by decide : (10:Nat) < 16) (Still.qt (s_field_ptr _ _ _ fdT_45_0_c rfl)) ?_
            | refine AXl.qt rfl (by decide : (10:Nat) < 16) (Still.qt (s_field_row _ _ _ fdT_45_0_c rfl rfl)) ?_
          first
            | refine AXl.qt rfl (by decide : (11:Nat) < 16) (Still.qt (s_load1 _ _ ldT_9_c rfl)) ?_
            | refine AXl.qt rfl (by decide : (11:Nat) < 16) (Still.qt (s_load1_row _ _ ldT_9_c rfl rfl (by first | rfl | exact List.getElem?_eq_getElem (by omega)) rfl)) ?_
          refine AXl.qt rfl (by decide : (12:Nat) < 16) (Still.qt (s_move _)) ?_
          refine AXl.nm_c0 ?_
          refine AXl.qt rfl (by decide : (13:Nat) < 16) (Still.qt (s_build _ _ plT_41_c zC_41_c rfl)) ?_
          refine AXl.qt rfl (by decide : (14:Nat) < 16) (q_buildSlice _ _ _ apT_35_c rfl rfl (by decide)) ?_
          first
            | refine AXl.append apT_35_c rfl rfl rfl (by simp only [List.length_append, List.length_map, List.length_cons, List.length_nil]; omega) (by simp only [List.length_append, List.length_map, List.length_cons, List.length_nil]; omega) (by decide : (15:Nat) < 16) ?_
            | refine AXl.append_nil apT_35_c rfl (by decide) rfl (by simp only [List.length_append, List.length_map, List.length_cons, List.length_nil]; omega) (by simp only [List.length_append, List.length_map, List.length_cons, List.length_nil]; omega) (by decide : (15:Nat) < 16) ?_
          refine AXl.nm_c0 ?_
          first
            | refine AXl.store rfl rfl rfl sz_35_c (by simp [Problem.ds, TagRule.ds, Fld.ds, Sub.ds, Rec.ds]) rfl ?_
            | refine AXl.store_row rfl rfl (by first | rfl | exact List.getElem?_eq_getElem (by omega)) rfl sz_35_c (by simp [Problem.ds, TagRule.ds, Fld.ds, Sub.ds, Rec.ds]) rfl ?_
          refine AXl.nm_c0 ?_
          refine AXl.nil ?_
          refine hK28 _ ?_
          clear hK28 K28
          refine ⟨.inr rfl, _, rfl, ?_⟩
          refine AXl.nm_c0 ?_
          refine AXl.nil ?_
          refine hK27 _ ?_
          clear hK27 K27
          refine EinBlock.n ?_
          refine Ethen.n ?_
          refine hK14 _ ?_
          clear hK14 K14
          refine AXc.region' fun K29 hK29 => ?_
          refine AXl.qt rfl (by decide : (50:Nat) < 83) (Still.qt (s_iar _ _ _ _ _ rfl rfl rfl (IntWalk.i64_in _ ⟨(by first | omega | (simp only [List.length_map, List.length_cons, List.length_nil, List.length_append, List.length_take, List.length_drop]; omega)), (by first | omega | (simp only [List.length_map, List.length_cons, List.length_nil, List.length_append, List.length_take, List.length_drop]; omega))⟩))) ?_
          refine AXl.qt rfl (by decide : (16:Nat) < 83) (Still.qt (s_move _)) ?_
          refine AXl.nm_c0 ?_
          refine AXl.nil ?_
          refine hK29 _ ?_
          clear hK29 K29
          refine Ethen.n ?_
          clear hK7 K7
          rw [sub_next x f.tag i f.subs hk] at hinv
          first
            | (refine ⟨(k + 1, ver + 1, out ++ [⟨4, i, f.tag, f.subs[k].code⟩]), ⟨by omega, ?_⟩, by first | omega | (dsimp only; omega), (by refine ⟨?_, ?_, ?_, ?_, ?_, ?_⟩ <;> (simp [subE, lk, AV.low, C.low, LB.low, Problem.ds, TagRule.ds, Fld.ds, Sub.ds, Rec.ds] <;> fail))⟩
               simp only [hc13, hc19, hg25, hc26, Bool.true_and, Bool.and_true, Bool.not_true, Bool.not_false, Bool.false_and, Bool.and_false, Bool.and_self, if_true, if_false, ↓reduceIte, Bool.false_eq_true, List.nil_append, List.append_assoc] at hinv ⊢
               exact hinv)
            | (refine ⟨(k + 1, ver + 1, out ++ [⟨5, i, f.tag, f.subs[k].code⟩]), ⟨by omega, ?_⟩, by first | omega | (dsimp only; omega), (by refine ⟨?_, ?_, ?_, ?_, ?_, ?_⟩ <;> (simp [subE, lk, AV.low, C.low, LB.low, Problem.ds, TagRule.ds, Fld.ds, Sub.ds, Rec.ds] <;> fail))⟩
               simp only [hc13, hc19, hg25, hc26, Bool.true_and, Bool.and_true, Bool.not_true, Bool.not_false, Bool.false_and, Bool.and_false, Bool.and_self, if_true, if_false, ↓reduceIte, Bool.false_eq_true, List.nil_append, List.append_assoc] at hinv ⊢
               exact hinv)
            | (refine ⟨(k + 1, ver, out), ⟨by omega, ?_⟩, by first | omega | (dsimp only; omega), (by refine ⟨?_, ?_, ?_, ?_, ?_, ?_⟩ <;> (simp [subE, lk, AV.low, C.low, LB.low, Problem.ds, TagRule.ds, Fld.ds, Sub.ds, Rec.ds] <;> fail))⟩
               simp only [hc13, hc19, hg25, hc26, Bool.true_and, Bool.and_true, Bool.not_true, Bool.not_false, Bool.false_and, Bool.and_false, Bool.and_self, if_true, if_false, ↓reduceIte, Bool.false_eq_true, List.nil_append, List.append_assoc] at hinv ⊢
               exact hinv)
        · try simp only [decide_eq_true_eq, decide_eq_false_iff_not, Bool.not_eq_true', Bool.not_eq_false', Int.not_lt, Int.not_le, ne_eq, Decidable.not_not, bne_iff_ne, beq_iff_eq, Bool.and_eq_true, Bool.or_eq_true, Bool.and_eq_false_iff, Bool.or_eq_false_iff, Bool.not_not, Ax.u8eq] at hc26
          refine AXc.skip ?_
          refine EinBlock.n ?_
          refine Ethen.n ?_
          refine hK14 _ ?_
          clear hK14 K14
          refine AXc.region' fun K30 hK30 => ?_
          refine AXl.qt rfl (by decide : (50:Nat) < 83) (Still.qt (s_iar _ _ _ _ _ rfl rfl rfl (IntWalk.i64_in _ ⟨(by first | omega | (simp only [List.length_map, List.length_cons, List.length_nil, List.length_append, List.length_take, List.length_drop]; omega)), (by first | omega | (simp only [List.length_map, List.length_cons, List.length_nil, List.length_append, List.length_take, List.length_drop]; omega))⟩))) ?_
          refine AXl.qt rfl (by decide : (16:Nat) < 83) (Still.qt (s_move _)) ?_
          refine AXl.nm_c0 ?_
          refine AXl.nil ?_
          refine hK30 _ ?_
          clear hK30 K30
          refine Ethen.n ?_
          clear hK7 K7
          rw [sub_next x f.tag i f.subs hk] at hinv
          first
            | (refine ⟨(k + 1, ver + 1, out ++ [⟨4, i, f.tag, f.subs[k].code⟩]), ⟨by omega, ?_⟩, by first | omega | (dsimp only; omega), (by refine ⟨?_, ?_, ?_, ?_, ?_, ?_⟩ <;> (simp [subE, lk, AV.low, C.low, LB.low, Problem.ds, TagRule.ds, Fld.ds, Sub.ds, Rec.ds] <;> fail))⟩
               simp only [hc13, hc19, hg25, hc26, Bool.true_and, Bool.and_true, Bool.not_true, Bool.not_false, Bool.false_and, Bool.and_false, Bool.and_self, if_true, if_false, ↓reduceIte, Bool.false_eq_true, List.nil_append, List.append_assoc] at hinv ⊢
               exact hinv)
            | (refine ⟨(k + 1, ver + 1, out ++ [⟨5, i, f.tag, f.subs[k].code⟩]), ⟨by omega, ?_⟩, by first | omega | (dsimp only; omega), (by refine ⟨?_, ?_, ?_, ?_, ?_, ?_⟩ <;> (simp [subE, lk, AV.low, C.low, LB.low, Problem.ds, TagRule.ds, Fld.ds, Sub.ds, Rec.ds] <;> fail))⟩
               simp only [hc13, hc19, hg25, hc26, Bool.true_and, Bool.and_true, Bool.not_true, Bool.not_false, Bool.false_and, Bool.and_false, Bool.and_self, if_true, if_false, ↓reduceIte, Bool.false_eq_true, List.nil_append, List.append_assoc] at hinv ⊢
               exact hinv)
            | (refine ⟨(k + 1, ver, out), ⟨by omega, ?_⟩, by first | omega | (dsimp only; omega), (by refine ⟨?_, ?_, ?_, ?_, ?_, ?_⟩ <;> (simp [subE, lk, AV.low, C.low, LB.low, Problem.ds, TagRule.ds, Fld.ds, Sub.ds, Rec.ds] <;> fail))⟩
               simp only [hc13, hc19, hg25, hc26, Bool.true_and, Bool.and_true, Bool.not_true, Bool.not_false, Bool.false_and, Bool.and_false, Bool.and_self, if_true, if_false, ↓reduceIte, Bool.false_eq_true, List.nil_append, List.append_assoc] at hinv ⊢
               exact hinv)
      · try simp only [decide_eq_true_eq, decide_eq_false_iff_not, Bool.not_eq_true', Bool.not_eq_false', Int.not_lt, Int.not_le, ne_eq, Decidable.not_not, bne_iff_ne, beq_iff_eq, Bool.and_eq_true, Bool.or_eq_true, Bool.and_eq_false_iff, Bool.or_eq_false_iff, Bool.not_not, Ax.u8eq] at hg25
        simp only [del, ↓reduceIte, Nat.reduceEqDiff]
        refine AXd.skip rfl ?_
        refine AXd.skip rfl ?_
        refine AXd.skip rfl ?_
        refine AXd.skip rfl ?_
        refine AXd.skip rfl ?_
        refine AXd.skip rfl ?_
        refine AXd.skip rfl ?_
        refine AXd.op rfl (Still.qt (s_pick_f _ _ _ rfl)) ?_
        refine AXd.nm_c0 ?_
        refine AXd.nil ?_
        refine AXl.nil ?_
        refine hK24 _ ?_
        clear hK24 K24
        refine Ethen.n ?_
        refine hK23 _ ?_
        clear hK23 K23
        refine AXc.cond_f rfl ?_
        refine AXc.skip ?_
        refine EinBlock.n ?_
        refine Ethen.n ?_
        refine hK14 _ ?_
        clear hK14 K14
        refine AXc.region' fun K31 hK31 => ?_
        refine AXl.qt rfl (by decide : (50:Nat) < 83) (Still.qt (s_iar _ _ _ _ _ rfl rfl rfl (IntWalk.i64_in _ ⟨(by first | omega | (simp only [List.length_map, List.length_cons, List.length_nil, List.length_append, List.length_take, List.length_drop]; omega)), (by first | omega | (simp only [List.length_map, List.length_cons, List.length_nil, List.length_append, List.length_take, List.length_drop]; omega))⟩))) ?_
        refine AXl.qt rfl (by decide : (16:Nat) < 83) (Still.qt (s_move _)) ?_
        refine AXl.nm_c0 ?_
        refine AXl.nil ?_
        refine hK31 _ ?_
        clear hK31 K31
        refine Ethen.n ?_
        clear hK7 K7
        rw [sub_next x f.tag i f.subs hk] at hinv
        first
          | (refine ⟨(k + 1, ver + 1, out ++ [⟨4, i, f.tag, f.subs[k].code⟩]), ⟨by omega, ?_⟩, by first | omega | (dsimp only; omega), (by refine ⟨?_, ?_, ?_, ?_, ?_, ?_⟩ <;> (simp [subE, lk, AV.low, C.low, LB.low, Problem.ds, TagRule.ds, Fld.ds, Sub.ds, Rec.ds] <;> fail))⟩
             simp only [hc13, hc19, hg25, Bool.true_and, Bool.and_true, Bool.not_true, Bool.not_false, Bool.false_and, Bool.and_false, Bool.and_self, if_true, if_false, ↓reduceIte, Bool.false_eq_true, List.nil_append, List.append_assoc] at hinv ⊢
             exact hinv)
          | (refine ⟨(k + 1, ver + 1, out ++ [⟨5, i, f.tag, f.subs[k].code⟩]), ⟨by omega, ?_⟩, by first | omega | (dsimp only; omega), (by refine ⟨?_, ?_, ?_, ?_, ?_, ?_⟩ <;> (simp [subE, lk, AV.low, C.low, LB.low, Problem.ds, TagRule.ds, Fld.ds, Sub.ds, Rec.ds] <;> fail))⟩
             simp only [hc13, hc19, hg25, Bool.true_and, Bool.and_true, Bool.not_true, Bool.not_false, Bool.false_and, Bool.and_false, Bool.and_self, if_true, if_false, ↓reduceIte, Bool.false_eq_true, List.nil_append, List.append_assoc] at hinv ⊢
             exact hinv)
          | (refine ⟨(k + 1, ver, out), ⟨by omega, ?_⟩, by first | omega | (dsimp only; omega), (by refine ⟨?_, ?_, ?_, ?_, ?_, ?_⟩ <;> (simp [subE, lk, AV.low, C.low, LB.low, Problem.ds, TagRule.ds, Fld.ds, Sub.ds, Rec.ds] <;> fail))⟩
             simp only [hc13, hc19, hg25, Bool.true_and, Bool.and_true, Bool.not_true, Bool.not_false, Bool.false_and, Bool.and_false, Bool.and_self, if_true, if_false, ↓reduceIte, Bool.false_eq_true, List.nil_append, List.append_assoc] at hinv ⊢
             exact hinv)
  · try simp only [decide_eq_true_eq, decide_eq_false_iff_not, Bool.not_eq_true', Bool.not_eq_false', Int.not_lt, Int.not_le, ne_eq, Decidable.not_not, bne_iff_ne, beq_iff_eq, Bool.and_eq_true, Bool.or_eq_true, Bool.and_eq_false_iff, Bool.or_eq_false_iff, Bool.not_not, Ax.u8eq] at hc13
    refine AXc.exit ?_
    refine Ethen.e ?_
    clear hK12 K12
    refine Ethen.e ?_
    refine EinBlock.hit ?_
    refine Ethen.n ?_
    refine hK7 _ ?_
    clear hK7 K7
    refine AXc.seq fun K32 hK32 => ?_
    refine AXc.seq fun K33 hK33 => ?_
    refine AXc.region' fun K34 hK34 => ?_
    first
      | refine AXl.qt rfl (by decide : (51:Nat) < 83) (Still.qt (s_field_loc _ _ _ fdT_29_5_c rfl)) ?_
      | refine AXl.qt rfl (by decide : (51:Nat) < 83) (Still.qt (s_field_ptr _ _ _ fdT_29_5_c rfl)) ?_
      | refine AXl.qt rfl (by decide : (51:Nat) < 83) (Still.qt (s_field_row _ _ _ fdT_29_5_c rfl rfl)) ?_
    first
      | refine AXl.qt rfl (by decide : (52:Nat) < 83) (Still.qt (s_load1 _ _ ldT_9_c rfl)) ?_
      | refine AXl.qt rfl (by decide : (52:Nat) < 83) (Still.qt (s_load1_row _ _ ldT_9_c rfl rfl (by first | rfl | exact List.getElem?_eq_getElem (by omega)) rfl)) ?_
    refine AXl.qt rfl (by decide : (53:Nat) < 83) (Still.qt (s_len_str _ _ Tryd.underlying9 rfl)) ?_
    refine AXl.qt rfl (by decide : (54:Nat) < 83) (Still.qt (s_move _)) ?_
    refine AXl.nm_c0 ?_
    refine AXl.nil ?_
    refine hK34 _ ?_
    clear hK34 K34
    refine Ethen.n ?_
    refine hK33 _ ?_
    clear hK33 K33
    refine AXc.block ?_
    refine AXc.loop (S := Nat × Nat × List Problem) (fun ⟨k, ver, out⟩ => ⟨[(3, .c (.loc 0 0)), (4, .c (.loc 1 0)), (5, .c (.loc 2 0)), (7, .c (.loc 3 0)), (8, .c (.clo 36 [3, 2, 1])), (53, .c (.d (.int .i64 x.needs.length))), (54, .c (.d (.int .i64 k)))], [.box 29 (x.ds.map C.d), .box 45 (f.ds.map C.d), .box 3 [.d (dI i)], .box 35 [.own 4 ver], .row 41 4 (out.map Problem.ds) ver]⟩) (fun ⟨k, ver, out⟩ => k ≤ x.needs.length ∧ out ++ needP f.tag i f.subs (x.needs.drop k) = subP x f.tag i [] f.subs ++ needP f.tag i f.subs x.needs) (fun ⟨k, ver, out⟩ => x.needs.length - k) (0, ver, out) ⟨by omega, by simpa [drop_end (show ¬ k < f.subs.length by omega), subP] using hinv⟩ (by refine ⟨?_, ?_, ?_, ?_, ?_, ?_⟩ <;> (simp [subE, lk, AV.low, C.low, LB.low, Problem.ds, TagRule.ds, Fld.ds, Sub.ds, Rec.ds] <;> fail)) ?_
    clear hinv hb hk0
    rintro ⟨k, ver, out⟩ ⟨hk0, hinv⟩
    have hb := congrArg List.length hinv; rw [List.length_append, List.length_append] at hb
    try simp only [Problem.ds, TagRule.ds, Fld.ds, Sub.ds, Rec.ds, indexByte_any, indexByte_any', ← List.map_take, Nat.sub_zero, List.map_cons, List.map_nil]
    refine AXc.seq fun K35 hK35 => ?_
    refine AXc.region' fun K36 hK36 => ?_
    refine AXl.qt rfl (by decide : (55:Nat) < 83) (Still.qt (s_icmp _ _ _ _ _ rfl rfl rfl)) ?_
    refine AXl.nm_c0 ?_
    refine AXl.nil ?_
    refine hK36 _ ?_
    clear hK36 K36
    refine Ethen.n ?_
    refine hK35 _ ?_
    clear hK35 K35
    refine AXc.seq fun K37 hK37 => ?_
    refine AXc.cond rfl (fun hc38 => ?_) (fun hc38 => ?_)
    · try simp only [decide_eq_true_eq, decide_eq_false_iff_not, Bool.not_eq_true', Bool.not_eq_false', Int.not_lt, Int.not_le, ne_eq, Decidable.not_not, bne_iff_ne, beq_iff_eq, Bool.and_eq_true, Bool.or_eq_true, Bool.and_eq_false_iff, Bool.or_eq_false_iff, Bool.not_not, Ax.u8eq] at hc38
      have hk : k < x.needs.length := by omega
      refine AXc.skip ?_
      refine Ethen.n ?_
      refine hK37 _ ?_
      clear hK37 K37
      refine AXc.seq fun K39 hK39 => ?_
      refine AXc.block ?_
      refine AXc.seq fun K40 hK40 => ?_
      refine AXc.region' fun K41 hK41 => ?_
      refine AXl.qt rfl (by decide : (56:Nat) < 83) (Still.qt (s_move _)) ?_
      refine AXl.qt rfl (by decide : (11:Nat) < 83) (Still.qt (s_assign _)) ?_
      refine AXl.nm_c0 ?_
      refine AXl.nil ?_
      refine hK41 _ ?_
      clear hK41 K41
      refine Ethen.n ?_
      refine hK40 _ ?_
      clear hK40 K40
      refine AXc.seq fun K42 hK42 => ?_
      refine AXc.draw' mixed_c 8 (by kernel_rfl) fun K43 hK43 => ?_
      simp only [List.take_succ_cons, List.take_zero, List.take_nil, List.drop_succ_cons, List.drop_zero, List.drop_nil]
      first
        | refine AXd.op rfl (Still.qt (s_field_loc _ _ _ fdT_45_2_c rfl)) ?_
        | refine AXd.op rfl (Still.qt (s_field_ptr _ _ _ fdT_45_2_c rfl)) ?_
        | refine AXd.op rfl (Still.qt (s_field_row _ _ _ fdT_45_2_c rfl rfl)) ?_
      first
        | refine AXd.op rfl (Still.qt (s_load1 _ _ ldT_43_c rfl)) ?_
        | refine AXd.op rfl (Still.qt (s_load1_row _ _ ldT_43_c rfl rfl (by first | rfl | exact List.getElem?_eq_getElem (by omega)) rfl)) ?_
      first
        | refine AXd.op rfl (Still.qt (s_field_loc _ _ _ fdT_29_5_c rfl)) ?_
        | refine AXd.op rfl (Still.qt (s_field_ptr _ _ _ fdT_29_5_c rfl)) ?_
        | refine AXd.op rfl (Still.qt (s_field_row _ _ _ fdT_29_5_c rfl rfl)) ?_
      first
        | refine AXd.op rfl (Still.qt (s_load1 _ _ ldT_9_c rfl)) ?_
        | refine AXd.op rfl (Still.qt (s_load1_row _ _ ldT_9_c rfl rfl (by first | rfl | exact List.getElem?_eq_getElem (by omega)) rfl)) ?_
      refine AXd.op rfl (Still.qt (s_move _)) ?_
      refine AXd.nm_c0 ?_
      refine AXd.op rfl (Still.qt (s_index_str _ _ _ Tryd.underlying9 rfl rfl (by first | omega | (simp only [List.length_map, List.length_cons, List.length_nil, List.length_append, List.length_take, List.length_drop]; omega)) (List.getElem?_eq_getElem (by first | omega | (simp only [List.length_map, List.length_cons, List.length_nil, List.length_append, List.length_take, List.length_drop]; omega))))) ?_
      refine AXd.nm_c0 ?_
      refine AXd.op rfl (q_call (c38 _ _ ?hs) (.cons (by first | exact ArgOk.d | exact ArgOk.bor rfl | exact ArgOk.agg rfl | exact ArgOk.agg (toDs_map _) | exact ArgOk.nil_bor | exact ArgOk.nil_lst | exact ArgOk.fn | exact ArgOk.ptr rfl rfl | exact ArgOk.aggn rfl (by repeat first | exact .nil | refine .cons (.refl _) ?_ | refine .cons (.nil _) ?_)) (.cons (by first | exact ArgOk.d | exact ArgOk.bor rfl | exact ArgOk.agg rfl | exact ArgOk.agg (toDs_map _) | exact ArgOk.nil_bor | exact ArgOk.nil_lst | exact ArgOk.fn | exact ArgOk.ptr rfl rfl | exact ArgOk.aggn rfl (by repeat first | exact .nil | refine .cons (.refl _) ?_ | refine .cons (.nil _) ?_)) .nil))) ?_
      case hs => first | omega | (rw [List.length_take]; omega)
      refine AXd.op rfl (Still.qt (s_not _ _ rfl)) ?_
      refine AXd.nm_c0 ?_
      refine AXd.nil ?_
      refine AXl.nil ?_
      refine hK43 _ ?_
      clear hK43 K43
      refine Ethen.n ?_
      refine hK42 _ ?_
      clear hK42 K42
      refine AXc.cond rfl (fun hc44 => ?_) (fun hc44 => ?_)
      · try simp only [decide_eq_true_eq, decide_eq_false_iff_not, Bool.not_eq_true', Bool.not_eq_false', Int.not_lt, Int.not_le, ne_eq, Decidable.not_not, bne_iff_ne, beq_iff_eq, Bool.and_eq_true, Bool.or_eq_true, Bool.and_eq_false_iff, Bool.or_eq_false_iff, Bool.not_not, Ax.u8eq] at hc44
        refine AXc.region' fun K45 hK45 => ?_
        refine AXl.qt rfl (by decide : (65:Nat) < 83) (Still.qt (s_move _)) ?_
        first
          | refine AXl.qt rfl (by decide : (66:Nat) < 83) (Still.qt (s_field_loc _ _ _ fdT_29_5_c rfl)) ?_
          | refine AXl.qt rfl (by decide : (66:Nat) < 83) (Still.qt (s_field_ptr _ _ _ fdT_29_5_c rfl)) ?_
          | refine AXl.qt rfl (by decide : (66:Nat) < 83) (Still.qt (s_field_row _ _ _ fdT_29_5_c rfl rfl)) ?_
        first
          | refine AXl.qt rfl (by decide : (67:Nat) < 83) (Still.qt (s_load1 _ _ ldT_9_c rfl)) ?_
          | refine AXl.qt rfl (by decide : (67:Nat) < 83) (Still.qt (s_load1_row _ _ ldT_9_c rfl rfl (by first | rfl | exact List.getElem?_eq_getElem (by omega)) rfl)) ?_
        refine AXl.qt rfl (by decide : (68:Nat) < 83) (Still.qt (s_move _)) ?_
        refine AXl.nm_c0 ?_
        refine AXl.qt rfl (by decide : (69:Nat) < 83) (Still.qt (s_index_str _ _ _ Tryd.underlying9 rfl rfl (by first | omega | (simp only [List.length_map, List.length_cons, List.length_nil, List.length_append, List.length_take, List.length_drop]; omega)) (List.getElem?_eq_getElem (by first | omega | (simp only [List.length_map, List.length_cons, List.length_nil, List.length_append, List.length_take, List.length_drop]; omega))))) ?_
        refine AXl.nm_c0 ?_
        refine AXl.inline (f := 36) Tryd.func36 (by kernel_rfl) rfl rfl (by rw [Tryd.ntmps36]; simp) (by decide : (70:Nat) < 83) ?_
        rw [Tryd.ntmps36, Tryd.results36]
        simp only [envOf, List.map_cons, List.map_nil, List.cons_append, List.nil_append, ev, lk, cAV, ↓reduceIte, Nat.reduceEqDiff, Nat.reduceAdd, List.length_cons, List.length_nil]
        refine AXc.region' fun K46 hK46 => ?_
        first
          | refine AXl.qt rfl (by decide : (7:Nat) < 16) (Still.qt (s_load1 _ _ ldT_35_c rfl)) ?_
          | refine AXl.qt rfl (by decide : (7:Nat) < 16) (Still.qt (s_load1_row _ _ ldT_35_c rfl rfl (by first | rfl | exact List.getElem?_eq_getElem (by omega)) rfl)) ?_
        refine AXl.qt rfl (by decide : (8:Nat) < 16) (Still.qt (s_move _)) ?_
        first
          | refine AXl.qt rfl (by decide : (9:Nat) < 16) (Still.qt (s_load1 _ _ ldT_3_c rfl)) ?_
          | refine AXl.qt rfl (by decide : (9:Nat) < 16) (Still.qt (s_load1_row _ _ ldT_3_c rfl rfl (by first | rfl | exact List.getElem?_eq_getElem (by omega)) rfl)) ?_
        first
          | refine AXl.qt rfl (by decide : (10:Nat) < 16) (Still.qt (s_field_loc _ _ _ fdT_45_0_c rfl)) ?_
          | refine AXl.qt rfl (by decide : (10:Nat) < 16) (Still.qt (s_field_ptr _ _ _ fdT_45_0_c rfl)) ?_
          | refine AXl.qt rfl (by decide : (10:Nat) < 16) (Still.qt (s_field_row _ _ _ fdT_45_0_c rfl rfl)) ?_
        first
          | refine AXl.qt rfl (by decide : (11:Nat) < 16) (Still.qt (s_load1 _ _ ldT_9_c rfl)) ?_
          | refine AXl.qt rfl (by decide : (11:Nat) < 16) (Still.qt (s_load1_row _ _ ldT_9_c rfl rfl (by first | rfl | exact List.getElem?_eq_getElem (by omega)) rfl)) ?_
        refine AXl.qt rfl (by decide : (12:Nat) < 16) (Still.qt (s_move _)) ?_
        refine AXl.nm_c0 ?_
        refine AXl.qt rfl (by decide : (13:Nat) < 16) (Still.qt (s_build _ _ plT_41_c zC_41_c rfl)) ?_
        refine AXl.qt rfl (by decide : (14:Nat) < 16) (q_buildSlice _ _ _ apT_35_c rfl rfl (by decide)) ?_
        first
          | refine AXl.append apT_35_c rfl rfl rfl (by simp only [List.length_append, List.length_map, List.length_cons, List.length_nil]; omega) (by simp only [List.length_append, List.length_map, List.length_cons, List.length_nil]; omega) (by decide : (15:Nat) < 16) ?_
          | refine AXl.append_nil apT_35_c rfl (by decide) rfl (by simp only [List.length_append, List.length_map, List.length_cons, List.length_nil]; omega) (by simp only [List.length_append, List.length_map, List.length_cons, List.length_nil]; omega) (by decide : (15:Nat) < 16) ?_
        refine AXl.nm_c0 ?_
        first
          | refine AXl.store rfl rfl rfl sz_35_c (by simp [Problem.ds, TagRule.ds, Fld.ds, Sub.ds, Rec.ds]) rfl ?_
          | refine AXl.store_row rfl rfl (by first | rfl | exact List.getElem?_eq_getElem (by omega)) rfl sz_35_c (by simp [Problem.ds, TagRule.ds, Fld.ds, Sub.ds, Rec.ds]) rfl ?_
        refine AXl.nm_c0 ?_
        refine AXl.nil ?_
        refine hK46 _ ?_
        clear hK46 K46
        refine ⟨.inr rfl, _, rfl, ?_⟩
        refine AXl.nm_c0 ?_
        refine AXl.nil ?_
        refine hK45 _ ?_
        clear hK45 K45
        refine EinBlock.n ?_
        refine Ethen.n ?_
        refine hK39 _ ?_
        clear hK39 K39
        refine AXc.region' fun K47 hK47 => ?_
        refine AXl.qt rfl (by decide : (71:Nat) < 83) (Still.qt (s_iar _ _ _ _ _ rfl rfl rfl (IntWalk.i64_in _ ⟨(by first | omega | (simp only [List.length_map, List.length_cons, List.length_nil, List.length_append, List.length_take, List.length_drop]; omega)), (by first | omega | (simp only [List.length_map, List.length_cons, List.length_nil, List.length_append, List.length_take, List.length_drop]; omega))⟩))) ?_
        refine AXl.qt rfl (by decide : (54:Nat) < 83) (Still.qt (s_move _)) ?_
        refine AXl.nm_c0 ?_
        refine AXl.nil ?_
        refine hK47 _ ?_
        clear hK47 K47
        refine Ethen.n ?_
        clear hK32 K32
        rw [need_next f.tag i f.subs x.needs hk] at hinv
        first
          | (refine ⟨(k + 1, ver + 1, out ++ [⟨6, i, f.tag, x.needs[k]⟩]), ⟨by omega, ?_⟩, by first | omega | (dsimp only; omega), (by refine ⟨?_, ?_, ?_, ?_, ?_, ?_⟩ <;> (simp [subE, lk, AV.low, C.low, LB.low, Problem.ds, TagRule.ds, Fld.ds, Sub.ds, Rec.ds] <;> fail))⟩
             simp only [hc13, hc38, hc44, Bool.true_and, Bool.and_true, Bool.not_true, Bool.not_false, Bool.false_and, Bool.and_false, Bool.and_self, if_true, if_false, ↓reduceIte, Bool.false_eq_true, List.nil_append, List.append_assoc] at hinv ⊢
             exact hinv)
          | (refine ⟨(k + 1, ver, out), ⟨by omega, ?_⟩, by first | omega | (dsimp only; omega), (by refine ⟨?_, ?_, ?_, ?_, ?_, ?_⟩ <;> (simp [subE, lk, AV.low, C.low, LB.low, Problem.ds, TagRule.ds, Fld.ds, Sub.ds, Rec.ds] <;> fail))⟩
             simp only [hc13, hc38, hc44, Bool.true_and, Bool.and_true, Bool.not_true, Bool.not_false, Bool.false_and, Bool.and_false, Bool.and_self, if_true, if_false, ↓reduceIte, Bool.false_eq_true, List.nil_append, List.append_assoc] at hinv ⊢
             exact hinv)
      · try simp only [decide_eq_true_eq, decide_eq_false_iff_not, Bool.not_eq_true', Bool.not_eq_false', Int.not_lt, Int.not_le, ne_eq, Decidable.not_not, bne_iff_ne, beq_iff_eq, Bool.and_eq_true, Bool.or_eq_true, Bool.and_eq_false_iff, Bool.or_eq_false_iff, Bool.not_not, Ax.u8eq] at hc44
        refine AXc.skip ?_
        refine EinBlock.n ?_
        refine Ethen.n ?_
        refine hK39 _ ?_
        clear hK39 K39
        refine AXc.region' fun K48 hK48 => ?_
        refine AXl.qt rfl (by decide : (71:Nat) < 83) (Still.qt (s_iar _ _ _ _ _ rfl rfl rfl (IntWalk.i64_in _ ⟨(by first | omega | (simp only [List.length_map, List.length_cons, List.length_nil, List.length_append, List.length_take, List.length_drop]; omega)), (by first | omega | (simp only [List.length_map, List.length_cons, List.length_nil, List.length_append, List.length_take, List.length_drop]; omega))⟩))) ?_
        refine AXl.qt rfl (by decide : (54:Nat) < 83) (Still.qt (s_move _)) ?_
        refine AXl.nm_c0 ?_
        refine AXl.nil ?_
        refine hK48 _ ?_
        clear hK48 K48
        refine Ethen.n ?_
        clear hK32 K32
        rw [need_next f.tag i f.subs x.needs hk] at hinv
        first
          | (refine ⟨(k + 1, ver + 1, out ++ [⟨6, i, f.tag, x.needs[k]⟩]), ⟨by omega, ?_⟩, by first | omega | (dsimp only; omega), (by refine ⟨?_, ?_, ?_, ?_, ?_, ?_⟩ <;> (simp [subE, lk, AV.low, C.low, LB.low, Problem.ds, TagRule.ds, Fld.ds, Sub.ds, Rec.ds] <;> fail))⟩
             simp only [hc13, hc38, hc44, Bool.true_and, Bool.and_true, Bool.not_true, Bool.not_false, Bool.false_and, Bool.and_false, Bool.and_self, if_true, if_false, ↓reduceIte, Bool.false_eq_true, List.nil_append, List.append_assoc] at hinv ⊢
             exact hinv)
          | (refine ⟨(k + 1, ver, out), ⟨by omega, ?_⟩, by first | omega | (dsimp only; omega), (by refine ⟨?_, ?_, ?_, ?_, ?_, ?_⟩ <;> (simp [subE, lk, AV.low, C.low, LB.low, Problem.ds, TagRule.ds, Fld.ds, Sub.ds, Rec.ds] <;> fail))⟩
             simp only [hc13, hc38, hc44, Bool.true_and, Bool.and_true, Bool.not_true, Bool.not_false, Bool.false_and, Bool.and_false, Bool.and_self, if_true, if_false, ↓reduceIte, Bool.false_eq_true, List.nil_append, List.append_assoc] at hinv ⊢
             exact hinv)
    · try simp only [decide_eq_true_eq, decide_eq_false_iff_not, Bool.not_eq_true', Bool.not_eq_false', Int.not_lt, Int.not_le, ne_eq, Decidable.not_not, bne_iff_ne, beq_iff_eq, Bool.and_eq_true, Bool.or_eq_true, Bool.and_eq_false_iff, Bool.or_eq_false_iff, Bool.not_not, Ax.u8eq] at hc38
      refine AXc.exit ?_
      refine Ethen.e ?_
      clear hK37 K37
      refine Ethen.e ?_
      refine EinBlock.hit ?_
      refine Ethen.n ?_
      refine hK32 _ ?_
      clear hK32 K32
      refine AXc.seq fun K49 hK49 => ?_
      refine AXc.seq fun K50 hK50 => ?_
      refine AXc.region' fun K51 hK51 => ?_
      first
        | refine AXl.qt rfl (by decide : (72:Nat) < 83) (Still.qt (s_field_loc _ _ _ fdT_45_3_c rfl)) ?_
        | refine AXl.qt rfl (by decide : (72:Nat) < 83) (Still.qt (s_field_ptr _ _ _ fdT_45_3_c rfl)) ?_
        | refine AXl.qt rfl (by decide : (72:Nat) < 83) (Still.qt (s_field_row _ _ _ fdT_45_3_c rfl rfl)) ?_
      first
        | refine AXl.qt rfl (by decide : (73:Nat) < 83) (Still.qt (s_load1 _ _ ldT_3_c rfl)) ?_
        | refine AXl.qt rfl (by decide : (73:Nat) < 83) (Still.qt (s_load1_row _ _ ldT_3_c rfl rfl (by first | rfl | exact List.getElem?_eq_getElem (by omega)) rfl)) ?_
      refine AXl.qt rfl (by decide : (74:Nat) < 83) (Still.qt (s_icmp _ _ _ _ _ rfl rfl rfl)) ?_
      refine AXl.qt rfl (by decide : (75:Nat) < 83) (Still.qt (s_move _)) ?_
      refine AXl.nm_c0 ?_
      refine AXl.split 75 _ rfl (fun hg52 => ?_) (fun hg52 => ?_)
      · try simp only [decide_eq_true_eq, decide_eq_false_iff_not, Bool.not_eq_true', Bool.not_eq_false', Int.not_lt, Int.not_le, ne_eq, Decidable.not_not, bne_iff_ne, beq_iff_eq, Bool.and_eq_true, Bool.or_eq_true, Bool.and_eq_false_iff, Bool.or_eq_false_iff, Bool.not_not, Ax.u8eq] at hg52
        simp only [del, ↓reduceIte, Nat.reduceEqDiff]
        first
          | refine AXl.qt_guard (by decide : (76:Nat) < 83) rfl (by kernel_rfl) (Still.qt (s_field_loc _ _ _ fdT_29_6_c rfl)) ?_
          | refine AXl.qt_guard (by decide : (76:Nat) < 83) rfl (by kernel_rfl) (Still.qt (s_field_ptr _ _ _ fdT_29_6_c rfl)) ?_
          | refine AXl.qt_guard (by decide : (76:Nat) < 83) rfl (by kernel_rfl) (Still.qt (s_field_row _ _ _ fdT_29_6_c rfl rfl)) ?_
        first
          | refine AXl.qt_guard (by decide : (77:Nat) < 83) rfl (by kernel_rfl) (Still.qt (s_load1 _ _ ldT_3_c rfl)) ?_
          | refine AXl.qt_guard (by decide : (77:Nat) < 83) rfl (by kernel_rfl) (Still.qt (s_load1_row _ _ ldT_3_c rfl rfl (by first | rfl | exact List.getElem?_eq_getElem (by omega)) rfl)) ?_
        refine AXl.qt_guard (by decide : (78:Nat) < 83) rfl (by kernel_rfl) (Still.qt (s_icmp _ _ _ _ _ rfl rfl rfl)) ?_
        refine AXl.qt rfl (by decide : (79:Nat) < 83) (Still.qt (s_pick_t _ _ _ rfl)) ?_
        refine AXl.nm_c0 ?_
        refine AXl.nil ?_
        refine hK51 _ ?_
        clear hK51 K51
        refine Ethen.n ?_
        refine hK50 _ ?_
        clear hK50 K50
        refine AXc.cond rfl (fun hc53 => ?_) (fun hc53 => ?_)
        · try simp only [decide_eq_true_eq, decide_eq_false_iff_not, Bool.not_eq_true', Bool.not_eq_false', Int.not_lt, Int.not_le, ne_eq, Decidable.not_not, bne_iff_ne, beq_iff_eq, Bool.and_eq_true, Bool.or_eq_true, Bool.and_eq_false_iff, Bool.or_eq_false_iff, Bool.not_not, Ax.u8eq] at hc53
          refine AXc.region' fun K54 hK54 => ?_
          refine AXl.qt rfl (by decide : (80:Nat) < 83) (Still.qt (s_move _)) ?_
          refine AXl.nm_c0 ?_
          refine AXl.inline (f := 36) Tryd.func36 (by kernel_rfl) rfl rfl (by rw [Tryd.ntmps36]; simp) (by decide : (81:Nat) < 83) ?_
          rw [Tryd.ntmps36, Tryd.results36]
          simp only [envOf, List.map_cons, List.map_nil, List.cons_append, List.nil_append, ev, lk, cAV, ↓reduceIte, Nat.reduceEqDiff, Nat.reduceAdd, List.length_cons, List.length_nil]
          refine AXc.region' fun K55 hK55 => ?_
          first
            | refine AXl.qt rfl (by decide : (7:Nat) < 16) (Still.qt (s_load1 _ _ ldT_35_c rfl)) ?_
            | refine AXl.qt rfl (by decide : (7:Nat) < 16) (Still.qt (s_load1_row _ _ ldT_35_c rfl rfl (by first | rfl | exact List.getElem?_eq_getElem (by omega)) rfl)) ?_
          refine AXl.qt rfl (by decide : (8:Nat) < 16) (Still.qt (s_move _)) ?_
          first
            | refine AXl.qt rfl (by decide : (9:Nat) < 16) (Still.qt (s_load1 _ _ ldT_3_c rfl)) ?_
            | refine AXl.qt rfl (by decide : (9:Nat) < 16) (Still.qt (s_load1_row _ _ ldT_3_c rfl rfl (by first | rfl | exact List.getElem?_eq_getElem (by omega)) rfl)) ?_
          first
            | refine AXl.qt rfl (by decide : (10:Nat) < 16) (Still.qt (s_field_loc _ _ _ fdT_45_0_c rfl)) ?_
            | refine AXl.qt rfl (by decide : (10:Nat) < 16) (Still.qt (s_field_ptr _ _ _ fdT_45_0_c rfl)) ?_
            | refine AXl.qt rfl (by decide : (10:Nat) < 16) (Still.qt (s_field_row _ _ _ fdT_45_0_c rfl rfl)) ?_
          first
            | refine AXl.qt rfl (by decide : (11:Nat) < 16) (Still.qt (s_load1 _ _ ldT_9_c rfl)) ?_
            | refine AXl.qt rfl (by decide : (11:Nat) < 16) (Still.qt (s_load1_row _ _ ldT_9_c rfl rfl (by first | rfl | exact List.getElem?_eq_getElem (by omega)) rfl)) ?_
          refine AXl.qt rfl (by decide : (12:Nat) < 16) (Still.qt (s_move _)) ?_
          refine AXl.nm_c0 ?_
          refine AXl.qt rfl (by decide : (13:Nat) < 16) (Still.qt (s_build _ _ plT_41_c zC_41_c rfl)) ?_
          refine AXl.qt rfl (by decide : (14:Nat) < 16) (q_buildSlice _ _ _ apT_35_c rfl rfl (by decide)) ?_
          first
            | refine AXl.append apT_35_c rfl rfl rfl (by simp only [List.length_append, List.length_map, List.length_cons, List.length_nil]; omega) (by simp only [List.length_append, List.length_map, List.length_cons, List.length_nil]; omega) (by decide : (15:Nat) < 16) ?_
            | refine AXl.append_nil apT_35_c rfl (by decide) rfl (by simp only [List.length_append, List.length_map, List.length_cons, List.length_nil]; omega) (by simp only [List.length_append, List.length_map, List.length_cons, List.length_nil]; omega) (by decide : (15:Nat) < 16) ?_
          refine AXl.nm_c0 ?_
          first
            | refine AXl.store rfl rfl rfl sz_35_c (by simp [Problem.ds, TagRule.ds, Fld.ds, Sub.ds, Rec.ds]) rfl ?_
            | refine AXl.store_row rfl rfl (by first | rfl | exact List.getElem?_eq_getElem (by omega)) rfl sz_35_c (by simp [Problem.ds, TagRule.ds, Fld.ds, Sub.ds, Rec.ds]) rfl ?_
          refine AXl.nm_c0 ?_
          refine AXl.nil ?_
          refine hK55 _ ?_
          clear hK55 K55
          refine ⟨.inr rfl, _, rfl, ?_⟩
          refine AXl.nm_c0 ?_
          refine AXl.nil ?_
          refine hK54 _ ?_
          clear hK54 K54
          refine Ethen.n ?_
          refine hK49 _ ?_
          clear hK49 K49
          refine AXc.seq fun K56 hK56 => ?_
          refine AXc.region' fun K57 hK57 => ?_
          first
            | refine AXl.qt rfl (by decide : (82:Nat) < 83) (Still.qt (s_load1 _ _ ldT_35_c rfl)) ?_
            | refine AXl.qt rfl (by decide : (82:Nat) < 83) (Still.qt (s_load1_row _ _ ldT_35_c rfl rfl (by first | rfl | exact List.getElem?_eq_getElem (by omega)) rfl)) ?_
          refine AXl.qt rfl (by decide : (6:Nat) < 83) (Still.qt (s_assign _)) ?_
          refine AXl.nm_c0 ?_
          refine AXl.nil ?_
          refine hK57 _ ?_
          clear hK57 K57
          refine Ethen.n ?_
          refine hK56 _ ?_
          clear hK56 K56
          refine AXc.ret ?_
          first
            | refine Fin.ret rfl (rvsOf_own rfl) ?_
            | refine Fin.ret rfl rfl ?_
          rw [drop_end (by omega), needP, List.append_nil] at hinv
          unfold fieldP authP
          first
            | (rw [if_pos (by simp_all), ← hinv]; simp [Problem.ds]; done)
            | (rw [if_neg (by simp_all), ← hinv]; simp [Problem.ds]; done)
        · try simp only [decide_eq_true_eq, decide_eq_false_iff_not, Bool.not_eq_true', Bool.not_eq_false', Int.not_lt, Int.not_le, ne_eq, Decidable.not_not, bne_iff_ne, beq_iff_eq, Bool.and_eq_true, Bool.or_eq_true, Bool.and_eq_false_iff, Bool.or_eq_false_iff, Bool.not_not, Ax.u8eq] at hc53
          refine AXc.skip ?_
          refine Ethen.n ?_
          refine hK49 _ ?_
          clear hK49 K49
          refine AXc.seq fun K58 hK58 => ?_
          refine AXc.region' fun K59 hK59 => ?_
          first
            | refine AXl.qt rfl (by decide : (82:Nat) < 83) (Still.qt (s_load1 _ _ ldT_35_c rfl)) ?_
            | refine AXl.qt rfl (by decide : (82:Nat) < 83) (Still.qt (s_load1_row _ _ ldT_35_c rfl rfl (by first | rfl | exact List.getElem?_eq_getElem (by omega)) rfl)) ?_
          refine AXl.qt rfl (by decide : (6:Nat) < 83) (Still.qt (s_assign _)) ?_
          refine AXl.nm_c0 ?_
          refine AXl.nil ?_
          refine hK59 _ ?_
          clear hK59 K59
          refine Ethen.n ?_
          refine hK58 _ ?_
          clear hK58 K58
          refine AXc.ret ?_
          first
            | refine Fin.ret rfl (rvsOf_own rfl) ?_
            | refine Fin.ret rfl rfl ?_
          rw [drop_end (by omega), needP, List.append_nil] at hinv
          unfold fieldP authP
          first
            | (rw [if_pos (by simp_all), ← hinv]; simp [Problem.ds]; done)
            | (rw [if_neg (by simp_all), ← hinv]; simp [Problem.ds]; done)
      · try simp only [decide_eq_true_eq, decide_eq_false_iff_not, Bool.not_eq_true', Bool.not_eq_false', Int.not_lt, Int.not_le, ne_eq, Decidable.not_not, bne_iff_ne, beq_iff_eq, Bool.and_eq_true, Bool.or_eq_true, Bool.and_eq_false_iff, Bool.or_eq_false_iff, Bool.not_not, Ax.u8eq] at hg52
        simp only [del, ↓reduceIte, Nat.reduceEqDiff]
        refine AXl.skip_guard (by decide : (76:Nat) < 83) rfl (by kernel_rfl) ?_
        refine AXl.skip_guard (by decide : (77:Nat) < 83) rfl (by kernel_rfl) ?_
        refine AXl.skip_guard (by decide : (78:Nat) < 83) rfl (by kernel_rfl) ?_
        refine AXl.qt rfl (by decide : (79:Nat) < 83) (Still.qt (s_pick_f _ _ _ rfl)) ?_
        refine AXl.nm_c0 ?_
        refine AXl.nil ?_
        refine hK51 _ ?_
        clear hK51 K51
        refine Ethen.n ?_
        refine hK50 _ ?_
        clear hK50 K50
        refine AXc.cond_f rfl ?_
        refine AXc.skip ?_
        refine Ethen.n ?_
        refine hK49 _ ?_
        clear hK49 K49
        refine AXc.seq fun K60 hK60 => ?_
        refine AXc.region' fun K61 hK61 => ?_
        first
          | refine AXl.qt rfl (by decide : (82:Nat) < 83) (Still.qt (s_load1 _ _ ldT_35_c rfl)) ?_
          | refine AXl.qt rfl (by decide : (82:Nat) < 83) (Still.qt (s_load1_row _ _ ldT_35_c rfl rfl (by first | rfl | exact List.getElem?_eq_getElem (by omega)) rfl)) ?_
        refine AXl.qt rfl (by decide : (6:Nat) < 83) (Still.qt (s_assign _)) ?_
        refine AXl.nm_c0 ?_
        refine AXl.nil ?_
        refine hK61 _ ?_
        clear hK61 K61
        refine Ethen.n ?_
        refine hK60 _ ?_
        clear hK60 K60
        refine AXc.ret ?_
        first
          | refine Fin.ret rfl (rvsOf_own rfl) ?_
          | refine Fin.ret rfl rfl ?_
        rw [drop_end (by omega), needP, List.append_nil] at hinv
        unfold fieldP authP
        first
          | (rw [if_pos (by simp_all), ← hinv]; simp [Problem.ds]; done)
          | (rw [if_neg (by simp_all), ← hinv]; simp [Problem.ds]; done)
end Go.Proofs
