/- Part of a proof about this program; no condition of its own. -/
import Derived.Test.YtjaooadhjmlhnaaDoorRDe
import Derived.Test.YtjaooadhjmlhnaaDoorRWe
import Derived.Test.YtjaooadhjmlhnaaDoorRWf
import Derived.Test.YtjaooadhjmlhnaaDoorProg
set_option linter.all false
namespace Go.Proofs
open Go Go.Ax Go.Rl
theorem slT_22_i : slT Tryd.prog 22 = some (29, 7) := by kernel_rfl
theorem apT_22_i : apT Tryd.prog 22 = some (29, 7, 80) := by kernel_rfl
theorem arT_62_i : arT Tryd.prog 62 = some (25, 29, 7) := by kernel_rfl
theorem zC_27_i : zeroC Tryd.prog 27 = some [.d (.int .i64 0), .d (.int .i64 0), .d (.int .i64 0), .d (.str []), .d (.raw (.slice none 0 0))] := by kernel_rfl
theorem plT_45_i : plT Tryd.prog 45 = some [(0, 1), (1, 1), (2, 1), (3, 1)] := by kernel_rfl
theorem zC_45_i : zeroC Tryd.prog 45 = some [.d (.str []), .d (.str []), .d (.raw (.slice none 0 0)), .d (.int .i64 0)] := by kernel_rfl
theorem sz_45_i : (Tryd.prog.info? 45).map (·.size) = some 4 := by kernel_rfl
theorem mixed_i : Tryd.prog.follows .mixedOrders = true := by kernel_rfl
theorem fdT_45_2_i : fdT Tryd.prog 45 2 = some 2 := by kernel_rfl
theorem ldT_43_i : ldT Tryd.prog 43 = some none := by kernel_rfl
theorem plT_55_i : plT Tryd.prog 55 = some [(0, 1), (1, 1)] := by kernel_rfl
theorem zC_55_i : zeroC Tryd.prog 55 = some [.d (.int .u8 0), .d (.str [])] := by kernel_rfl
theorem apT_43_i : apT Tryd.prog 43 = some (55, 2, 24) := by kernel_rfl
theorem sz_43_i : (Tryd.prog.info? 43).map (·.size) = some 1 := by kernel_rfl
theorem ldT_45_i : ldT Tryd.prog 45 = some (some 4) := by kernel_rfl
theorem apT_25_i : apT Tryd.prog 25 = some (45, 4, 64) := by kernel_rfl
theorem plT_27_i : plT Tryd.prog 27 = some [(0, 1), (1, 1), (2, 1), (3, 1), (4, 1)] := by kernel_rfl
theorem sz_27_i : (Tryd.prog.info? 27).map (·.size) = some 5 := by kernel_rfl
theorem apT_35_i : apT Tryd.prog 35 = some (41, 4, 40) := by kernel_rfl
theorem slT_35_i : slT Tryd.prog 35 = some (41, 4) := by kernel_rfl
theorem fdT_41_0_i : fdT Tryd.prog 41 0 = some 0 := by kernel_rfl
theorem ldT_3_i : ldT Tryd.prog 3 = some none := by kernel_rfl
theorem fdT_41_1_i : fdT Tryd.prog 41 1 = some 1 := by kernel_rfl
theorem fdT_41_2_i : fdT Tryd.prog 41 2 = some 2 := by kernel_rfl
theorem ldT_9_i : ldT Tryd.prog 9 = some none := by kernel_rfl
theorem fdT_41_3_i : fdT Tryd.prog 41 3 = some 3 := by kernel_rfl
theorem ldT_5_i : ldT Tryd.prog 5 = some none := by kernel_rfl
theorem plT_41_i : plT Tryd.prog 41 = some [(0, 1), (1, 1), (2, 1), (3, 1)] := by kernel_rfl
theorem zC_41_i : zeroC Tryd.prog 41 = some [.d (.int .i64 0), .d (.int .i64 0), .d (.str []), .d (.int .u8 0)] := by kernel_rfl
theorem AXl.nm_i0 {P : Program} {pm : Pm} {ops : Array Oper} {rest : List Oper} {st st' : St} {K : St → Prop} (hk : AXl P pm ops rest st' K) (he : st = st' := by first | (simp only [St.put, putE, U, del, lk, ev, cAV, lkG, rsAV, rvAV, ↓reduceIte, Nat.reduceEqDiff, Nat.reduceAdd, Nat.reduceMul, List.length_map, List.length_cons, List.length_nil, List.getElem_map, Int.toNat_natCast, List.cons_append, List.nil_append, List.set_cons_zero, List.set_cons_succ, splice, List.take_succ_cons, List.take_zero, List.drop_succ_cons, List.drop_zero, Nat.zero_add, Nat.add_zero, List.map_cons, List.map_nil, List.take_nil, List.drop_nil, List.append_nil, Problem.ds, TagRule.ds, Fld.ds, Sub.ds, Rec.ds]; done) | (simp only [St.put, putE, U, del, lk, ev, cAV, lkG, rsAV, rvAV, ↓reduceIte, Nat.reduceEqDiff, Nat.reduceAdd, Nat.reduceMul, List.length_map, List.length_cons, List.length_nil, List.getElem_map, Int.toNat_natCast, List.cons_append, List.nil_append, List.set_cons_zero, List.set_cons_succ, splice, List.take_succ_cons, List.take_zero, List.drop_succ_cons, List.drop_zero, Nat.zero_add, Nat.add_zero, List.map_cons, List.map_nil, List.take_nil, List.drop_nil, List.append_nil, Problem.ds, TagRule.ds, Fld.ds, Sub.ds, Rec.ds]; rfl) | rfl) : AXl P pm ops rest st K := he ▸ hk
theorem AXd.nm_i0 {P : Program} {pm : Pm} {h : List LB} {ops : Array Oper} {pre : List Oper} {ρ ρ' : List (Nat × AV)} {Kd : List (Nat × AV) → Prop} (hk : AXd P pm h ops pre ρ' Kd) (he : ρ = ρ' := by first | (simp only [St.put, putE, U, del, lk, ev, cAV, lkG, rsAV, rvAV, ↓reduceIte, Nat.reduceEqDiff, Nat.reduceAdd, Nat.reduceMul, List.length_map, List.length_cons, List.length_nil, List.getElem_map, Int.toNat_natCast, List.cons_append, List.nil_append, List.set_cons_zero, List.set_cons_succ, splice, List.take_succ_cons, List.take_zero, List.drop_succ_cons, List.drop_zero, Nat.zero_add, Nat.add_zero, List.map_cons, List.map_nil, List.take_nil, List.drop_nil, List.append_nil, Problem.ds, TagRule.ds, Fld.ds, Sub.ds, Rec.ds]; done) | (simp only [St.put, putE, U, del, lk, ev, cAV, lkG, rsAV, rvAV, ↓reduceIte, Nat.reduceEqDiff, Nat.reduceAdd, Nat.reduceMul, List.length_map, List.length_cons, List.length_nil, List.getElem_map, Int.toNat_natCast, List.cons_append, List.nil_append, List.set_cons_zero, List.set_cons_succ, splice, List.take_succ_cons, List.take_zero, List.drop_succ_cons, List.drop_zero, Nat.zero_add, Nat.add_zero, List.map_cons, List.map_nil, List.take_nil, List.drop_nil, List.append_nil, Problem.ds, TagRule.ds, Fld.ds, Sub.ds, Rec.ds]; rfl) | rfl) : AXd P pm h ops pre ρ Kd := he ▸ hk
theorem AXl.nm_i1 {P : Program} {pm : Pm} {ops : Array Oper} {rest : List Oper} {st st' : St} {K : St → Prop} (hk : AXl P pm ops rest st' K) (he : st = st' := by first | (simp only [St.put, putE, U, del, lk, ev, cAV, lkG, rsAV, rvAV, ↓reduceIte, Nat.reduceEqDiff, Nat.reduceAdd, Nat.reduceMul, List.length_map, List.length_cons, List.length_nil, List.getElem_map, Int.toNat_natCast, List.cons_append, List.nil_append, List.set_cons_zero, List.set_cons_succ, splice, List.take_succ_cons, List.take_zero, List.drop_succ_cons, List.drop_zero, Nat.zero_add, Nat.add_zero, List.map_cons, List.map_nil, List.take_nil, List.drop_nil, List.append_nil]; done) | (simp only [St.put, putE, U, del, lk, ev, cAV, lkG, rsAV, rvAV, ↓reduceIte, Nat.reduceEqDiff, Nat.reduceAdd, Nat.reduceMul, List.length_map, List.length_cons, List.length_nil, List.getElem_map, Int.toNat_natCast, List.cons_append, List.nil_append, List.set_cons_zero, List.set_cons_succ, splice, List.take_succ_cons, List.take_zero, List.drop_succ_cons, List.drop_zero, Nat.zero_add, Nat.add_zero, List.map_cons, List.map_nil, List.take_nil, List.drop_nil, List.append_nil]; rfl) | rfl) : AXl P pm ops rest st K := he ▸ hk
theorem AXd.nm_i1 {P : Program} {pm : Pm} {h : List LB} {ops : Array Oper} {pre : List Oper} {ρ ρ' : List (Nat × AV)} {Kd : List (Nat × AV) → Prop} (hk : AXd P pm h ops pre ρ' Kd) (he : ρ = ρ' := by first | (simp only [St.put, putE, U, del, lk, ev, cAV, lkG, rsAV, rvAV, ↓reduceIte, Nat.reduceEqDiff, Nat.reduceAdd, Nat.reduceMul, List.length_map, List.length_cons, List.length_nil, List.getElem_map, Int.toNat_natCast, List.cons_append, List.nil_append, List.set_cons_zero, List.set_cons_succ, splice, List.take_succ_cons, List.take_zero, List.drop_succ_cons, List.drop_zero, Nat.zero_add, Nat.add_zero, List.map_cons, List.map_nil, List.take_nil, List.drop_nil, List.append_nil]; done) | (simp only [St.put, putE, U, del, lk, ev, cAV, lkG, rsAV, rvAV, ↓reduceIte, Nat.reduceEqDiff, Nat.reduceAdd, Nat.reduceMul, List.length_map, List.length_cons, List.length_nil, List.getElem_map, Int.toNat_natCast, List.cons_append, List.nil_append, List.set_cons_zero, List.set_cons_succ, splice, List.take_succ_cons, List.take_zero, List.drop_succ_cons, List.drop_zero, Nat.zero_add, Nat.add_zero, List.map_cons, List.map_nil, List.take_nil, List.drop_nil, List.append_nil]; rfl) | rfl) : AXd P pm h ops pre ρ Kd := he ▸ hk
theorem AXl.nm_i2 {P : Program} {pm : Pm} {ops : Array Oper} {rest : List Oper} {st st' : St} {K : St → Prop} (hk : AXl P pm ops rest st' K) (he : st = st' := by first | (simp only [St.put, putE, U, del, lk, ev, cAV, lkG, rsAV, rvAV, ↓reduceIte, Nat.reduceEqDiff, Nat.reduceAdd, Nat.reduceMul, List.length_map, List.length_cons, List.length_nil, List.getElem_map, Int.toNat_natCast, List.cons_append, List.nil_append, List.set_cons_zero, List.set_cons_succ, splice, List.take_succ_cons, List.take_zero, List.drop_succ_cons, List.drop_zero, Nat.zero_add, Nat.add_zero, List.map_cons, List.map_nil, List.take_nil, List.drop_nil, List.append_nil, TagRule.ds]; done) | (simp only [St.put, putE, U, del, lk, ev, cAV, lkG, rsAV, rvAV, ↓reduceIte, Nat.reduceEqDiff, Nat.reduceAdd, Nat.reduceMul, List.length_map, List.length_cons, List.length_nil, List.getElem_map, Int.toNat_natCast, List.cons_append, List.nil_append, List.set_cons_zero, List.set_cons_succ, splice, List.take_succ_cons, List.take_zero, List.drop_succ_cons, List.drop_zero, Nat.zero_add, Nat.add_zero, List.map_cons, List.map_nil, List.take_nil, List.drop_nil, List.append_nil, TagRule.ds]; rfl) | rfl) : AXl P pm ops rest st K := he ▸ hk
theorem AXd.nm_i2 {P : Program} {pm : Pm} {h : List LB} {ops : Array Oper} {pre : List Oper} {ρ ρ' : List (Nat × AV)} {Kd : List (Nat × AV) → Prop} (hk : AXd P pm h ops pre ρ' Kd) (he : ρ = ρ' := by first | (simp only [St.put, putE, U, del, lk, ev, cAV, lkG, rsAV, rvAV, ↓reduceIte, Nat.reduceEqDiff, Nat.reduceAdd, Nat.reduceMul, List.length_map, List.length_cons, List.length_nil, List.getElem_map, Int.toNat_natCast, List.cons_append, List.nil_append, List.set_cons_zero, List.set_cons_succ, splice, List.take_succ_cons, List.take_zero, List.drop_succ_cons, List.drop_zero, Nat.zero_add, Nat.add_zero, List.map_cons, List.map_nil, List.take_nil, List.drop_nil, List.append_nil, TagRule.ds]; done) | (simp only [St.put, putE, U, del, lk, ev, cAV, lkG, rsAV, rvAV, ↓reduceIte, Nat.reduceEqDiff, Nat.reduceAdd, Nat.reduceMul, List.length_map, List.length_cons, List.length_nil, List.getElem_map, Int.toNat_natCast, List.cons_append, List.nil_append, List.set_cons_zero, List.set_cons_succ, splice, List.take_succ_cons, List.take_zero, List.drop_succ_cons, List.drop_zero, Nat.zero_add, Nat.add_zero, List.map_cons, List.map_nil, List.take_nil, List.drop_nil, List.append_nil, TagRule.ds]; rfl) | rfl) : AXd P pm h ops pre ρ Kd := he ▸ hk
/-- The contract of slices.Clone   library api.TagRule library api.TagRule . -/
theorem c33 {Γ : List (Nat × List D)} (l : List TagRule) (hne : l ≠ []) (hl : l.length ≤ 1000) : AFn Tryd.prog Γ 33 [.c (.bor 7 (l.map TagRule.ds))] [.fresh 29 7 (l.map TagRule.ds)] := by
  refine AFn.of_body1 (n := 8) (r := .tmp 2) 0 Tryd.func33 (by kernel_rfl) rfl Tryd.ntmps33 (by rw [Tryd.results33]) (by simp) ?_
  simp only [envOf, Nat.reduceAdd]
  refine AXc.seq fun K1 hK1 => ?_
  refine AXc.region' fun K2 hK2 => ?_
  refine AXl.qt rfl (by decide : (2:Nat) < 8) (Still.qt (s_assign _)) ?_
  refine AXl.nm_i0 ?_
  refine AXl.nil ?_
  refine hK2 _ ?_
  clear hK2 K2
  refine Ethen.n ?_
  refine hK1 _ ?_
  clear hK1 K1
  refine AXc.seq fun K3 hK3 => ?_
  refine AXc.seq fun K4 hK4 => ?_
  refine AXc.region' fun K5 hK5 => ?_
  refine AXl.qt rfl (by decide : (3:Nat) < 8) (Still.qt (s_move _)) ?_
  first
    | refine AXl.qt rfl (by decide : (4:Nat) < 8) (Still.qt (s_slnil _ _ _ _ slT_22_i rfl rfl)) ?_
    | refine AXl.qt rfl (by decide : (4:Nat) < 8) (Still.qt (s_slnil_ne _ _ _ _ slT_22_i (.inl rfl) (by simpa using hne) rfl)) ?_
    | refine AXl.qt rfl (by decide : (4:Nat) < 8) (Still.qt (s_slnil_ne _ _ _ _ slT_22_i (.inr rfl) (by simpa using hne) rfl)) ?_
  refine AXl.nm_i0 ?_
  refine AXl.nil ?_
  refine hK5 _ ?_
  clear hK5 K5
  refine Ethen.n ?_
  refine hK4 _ ?_
  clear hK4 K4
  refine AXc.cond_f rfl ?_
  refine AXc.skip ?_
  refine Ethen.n ?_
  refine hK3 _ ?_
  clear hK3 K3
  refine AXc.seq fun K6 hK6 => ?_
  refine AXc.region' fun K7 hK7 => ?_
  refine AXl.buildSlice apT_22_i rfl rfl (by decide) (by decide : (5:Nat) < 8) ?_
  refine AXl.qt rfl (by decide : (6:Nat) < 8) (Still.qt (s_move _)) ?_
  first
    | refine AXl.append apT_22_i rfl rfl rfl (by simp only [List.length_append, List.length_map, List.length_cons, List.length_nil]; omega) (by simp only [List.length_append, List.length_map, List.length_cons, List.length_nil]; omega) (by decide : (7:Nat) < 8) ?_
    | refine AXl.append_nil apT_22_i rfl (by decide) rfl (by simp only [List.length_append, List.length_map, List.length_cons, List.length_nil]; omega) (by simp only [List.length_append, List.length_map, List.length_cons, List.length_nil]; omega) (by decide : (7:Nat) < 8) ?_
  refine AXl.qt rfl (by decide : (2:Nat) < 8) (Still.qt (s_assign _)) ?_
  refine AXl.nm_i0 ?_
  refine AXl.nil ?_
  refine hK7 _ ?_
  clear hK7 K7
  refine Ethen.n ?_
  refine hK6 _ ?_
  clear hK6 K6
  refine AXc.ret ?_
  first
    | refine Fin.ret rfl (rvsOf_own rfl) ?_
    | refine Fin.ret rfl rfl ?_
  rfl
/-- The contract of library rules.Standard. -/
theorem c18  : AFn Tryd.prog [(0, (stdL.map TagRule.ds).flatten)] 18 [] [.fresh 29 7 (stdL.map TagRule.ds)] := by
  refine AFn.of_body1 (n := 3) (r := .tmp 0) 0 Tryd.func18 (by kernel_rfl) rfl Tryd.ntmps18 (by rw [Tryd.results18]) (by simp) ?_
  simp only [envOf, Nat.reduceAdd]
  refine AXc.seq fun K1 hK1 => ?_
  refine AXc.region' fun K2 hK2 => ?_
  refine AXl.qt rfl (by decide : (0:Nat) < 3) (Still.qt (s_assign _)) ?_
  refine AXl.nm_i1 ?_
  refine AXl.nil ?_
  refine hK2 _ ?_
  clear hK2 K2
  refine Ethen.n ?_
  refine hK1 _ ?_
  clear hK1 K1
  refine AXc.seq fun K3 hK3 => ?_
  refine AXc.region' fun K4 hK4 => ?_
  refine AXl.qt rfl (by decide : (1:Nat) < 3) (Still.qt (s_slice_arr _ _ (stdL.map TagRule.ds) arT_62_i rfl rfl rfl (by intro e he; obtain ⟨x, _, rfl⟩ := List.mem_map.1 he; rfl) (by decide))) ?_
  refine AXl.nm_i1 ?_
  refine AXl.call_own rfl (c33 stdL (by decide) (by decide)) (.cons (by first | exact ArgOk.d | exact ArgOk.bor rfl | exact ArgOk.agg rfl | exact ArgOk.agg (toDs_map _) | exact ArgOk.nil_bor | exact ArgOk.nil_lst | exact ArgOk.fn | exact ArgOk.aggn rfl (by repeat first | exact .nil | refine .cons (.refl _) ?_ | refine .cons (.nil _) ?_)) .nil) (by decide : (2:Nat) < 3) ?_
  refine AXl.qt rfl (by decide : (0:Nat) < 3) (Still.qt (s_assign _)) ?_
  refine AXl.nm_i1 ?_
  refine AXl.nil ?_
  refine hK4 _ ?_
  clear hK4 K4
  refine Ethen.n ?_
  refine hK3 _ ?_
  clear hK3 K3
  refine AXc.ret ?_
  first
    | refine Fin.ret rfl (rvsOf_own rfl) ?_
    | refine Fin.ret rfl rfl ?_
  rfl
set_option maxHeartbeats 1600000 in
/-- The contract of library libraryref09.Standard. -/
theorem c17 {Γ : List (Nat × List D)}  : AFn Tryd.prog Γ 17 [] [.d (.lst 7 (stdL.map TagRule.ds))] := by
  refine AFn.of_body0 (n := 27) (res := [.tmp 0]) Tryd.func17 (by kernel_rfl) rfl Tryd.ntmps17 (by rw [Tryd.results17]) (by simp) ?_
  simp only [envOf, Nat.reduceAdd]
  refine AXc.seq fun K1 hK1 => ?_
  refine AXc.region' fun K2 hK2 => ?_
  refine AXl.qt rfl (by decide : (0:Nat) < 27) (Still.qt (s_assign _)) ?_
  refine AXl.nm_i2 ?_
  refine AXl.nil ?_
  refine hK2 _ ?_
  clear hK2 K2
  refine Ethen.n ?_
  refine hK1 _ ?_
  clear hK1 K1
  refine AXc.seq fun K3 hK3 => ?_
  refine AXc.region' fun K4 hK4 => ?_
  refine AXl.qt rfl (by decide : (1:Nat) < 27) (q_call (c32 ⟨[48, 50, 48], true, false, [97, 122], [], [], 0⟩) (.cons (by first | exact ArgOk.d | exact ArgOk.bor rfl | exact ArgOk.agg rfl | exact ArgOk.agg (toDs_map _) | exact ArgOk.nil_bor | exact ArgOk.nil_lst | exact ArgOk.fn | exact ArgOk.ptr rfl rfl | exact ArgOk.aggn rfl (by repeat first | exact .nil | refine .cons (.refl _) ?_ | refine .cons (.nil _) ?_)) (.cons (by first | exact ArgOk.d | exact ArgOk.bor rfl | exact ArgOk.agg rfl | exact ArgOk.agg (toDs_map _) | exact ArgOk.nil_bor | exact ArgOk.nil_lst | exact ArgOk.fn | exact ArgOk.ptr rfl rfl | exact ArgOk.aggn rfl (by repeat first | exact .nil | refine .cons (.refl _) ?_ | refine .cons (.nil _) ?_)) (.cons (by first | exact ArgOk.d | exact ArgOk.bor rfl | exact ArgOk.agg rfl | exact ArgOk.agg (toDs_map _) | exact ArgOk.nil_bor | exact ArgOk.nil_lst | exact ArgOk.fn | exact ArgOk.ptr rfl rfl | exact ArgOk.aggn rfl (by repeat first | exact .nil | refine .cons (.refl _) ?_ | refine .cons (.nil _) ?_)) (.cons (by first | exact ArgOk.d | exact ArgOk.bor rfl | exact ArgOk.agg rfl | exact ArgOk.agg (toDs_map _) | exact ArgOk.nil_bor | exact ArgOk.nil_lst | exact ArgOk.fn | exact ArgOk.ptr rfl rfl | exact ArgOk.aggn rfl (by repeat first | exact .nil | refine .cons (.refl _) ?_ | refine .cons (.nil _) ?_)) (.cons (by first | exact ArgOk.d | exact ArgOk.bor rfl | exact ArgOk.agg rfl | exact ArgOk.agg (toDs_map _) | exact ArgOk.nil_bor | exact ArgOk.nil_lst | exact ArgOk.fn | exact ArgOk.ptr rfl rfl | exact ArgOk.aggn rfl (by repeat first | exact .nil | refine .cons (.refl _) ?_ | refine .cons (.nil _) ?_)) (.cons (by first | exact ArgOk.d | exact ArgOk.bor rfl | exact ArgOk.agg rfl | exact ArgOk.agg (toDs_map _) | exact ArgOk.nil_bor | exact ArgOk.nil_lst | exact ArgOk.fn | exact ArgOk.ptr rfl rfl | exact ArgOk.aggn rfl (by repeat first | exact .nil | refine .cons (.refl _) ?_ | refine .cons (.nil _) ?_)) (.cons (by first | exact ArgOk.d | exact ArgOk.bor rfl | exact ArgOk.agg rfl | exact ArgOk.agg (toDs_map _) | exact ArgOk.nil_bor | exact ArgOk.nil_lst | exact ArgOk.fn | exact ArgOk.ptr rfl rfl | exact ArgOk.aggn rfl (by repeat first | exact .nil | refine .cons (.refl _) ?_ | refine .cons (.nil _) ?_)) .nil)))))))) ?_
  refine AXl.nm_i2 ?_
  refine AXl.qt rfl (by decide : (2:Nat) < 27) (q_call (c32 ⟨[48, 50, 50], true, false, [97], [], [], 0⟩) (.cons (by first | exact ArgOk.d | exact ArgOk.bor rfl | exact ArgOk.agg rfl | exact ArgOk.agg (toDs_map _) | exact ArgOk.nil_bor | exact ArgOk.nil_lst | exact ArgOk.fn | exact ArgOk.ptr rfl rfl | exact ArgOk.aggn rfl (by repeat first | exact .nil | refine .cons (.refl _) ?_ | refine .cons (.nil _) ?_)) (.cons (by first | exact ArgOk.d | exact ArgOk.bor rfl | exact ArgOk.agg rfl | exact ArgOk.agg (toDs_map _) | exact ArgOk.nil_bor | exact ArgOk.nil_lst | exact ArgOk.fn | exact ArgOk.ptr rfl rfl | exact ArgOk.aggn rfl (by repeat first | exact .nil | refine .cons (.refl _) ?_ | refine .cons (.nil _) ?_)) (.cons (by first | exact ArgOk.d | exact ArgOk.bor rfl | exact ArgOk.agg rfl | exact ArgOk.agg (toDs_map _) | exact ArgOk.nil_bor | exact ArgOk.nil_lst | exact ArgOk.fn | exact ArgOk.ptr rfl rfl | exact ArgOk.aggn rfl (by repeat first | exact .nil | refine .cons (.refl _) ?_ | refine .cons (.nil _) ?_)) (.cons (by first | exact ArgOk.d | exact ArgOk.bor rfl | exact ArgOk.agg rfl | exact ArgOk.agg (toDs_map _) | exact ArgOk.nil_bor | exact ArgOk.nil_lst | exact ArgOk.fn | exact ArgOk.ptr rfl rfl | exact ArgOk.aggn rfl (by repeat first | exact .nil | refine .cons (.refl _) ?_ | refine .cons (.nil _) ?_)) (.cons (by first | exact ArgOk.d | exact ArgOk.bor rfl | exact ArgOk.agg rfl | exact ArgOk.agg (toDs_map _) | exact ArgOk.nil_bor | exact ArgOk.nil_lst | exact ArgOk.fn | exact ArgOk.ptr rfl rfl | exact ArgOk.aggn rfl (by repeat first | exact .nil | refine .cons (.refl _) ?_ | refine .cons (.nil _) ?_)) (.cons (by first | exact ArgOk.d | exact ArgOk.bor rfl | exact ArgOk.agg rfl | exact ArgOk.agg (toDs_map _) | exact ArgOk.nil_bor | exact ArgOk.nil_lst | exact ArgOk.fn | exact ArgOk.ptr rfl rfl | exact ArgOk.aggn rfl (by repeat first | exact .nil | refine .cons (.refl _) ?_ | refine .cons (.nil _) ?_)) (.cons (by first | exact ArgOk.d | exact ArgOk.bor rfl | exact ArgOk.agg rfl | exact ArgOk.agg (toDs_map _) | exact ArgOk.nil_bor | exact ArgOk.nil_lst | exact ArgOk.fn | exact ArgOk.ptr rfl rfl | exact ArgOk.aggn rfl (by repeat first | exact .nil | refine .cons (.refl _) ?_ | refine .cons (.nil _) ?_)) .nil)))))))) ?_
  refine AXl.nm_i2 ?_
  refine AXl.qt rfl (by decide : (3:Nat) < 27) (q_call (c32 ⟨[48, 52, 49], true, false, [97], [], [], 0⟩) (.cons (by first | exact ArgOk.d | exact ArgOk.bor rfl | exact ArgOk.agg rfl | exact ArgOk.agg (toDs_map _) | exact ArgOk.nil_bor | exact ArgOk.nil_lst | exact ArgOk.fn | exact ArgOk.ptr rfl rfl | exact ArgOk.aggn rfl (by repeat first | exact .nil | refine .cons (.refl _) ?_ | refine .cons (.nil _) ?_)) (.cons (by first | exact ArgOk.d | exact ArgOk.bor rfl | exact ArgOk.agg rfl | exact ArgOk.agg (toDs_map _) | exact ArgOk.nil_bor | exact ArgOk.nil_lst | exact ArgOk.fn | exact ArgOk.ptr rfl rfl | exact ArgOk.aggn rfl (by repeat first | exact .nil | refine .cons (.refl _) ?_ | refine .cons (.nil _) ?_)) (.cons (by first | exact ArgOk.d | exact ArgOk.bor rfl | exact ArgOk.agg rfl | exact ArgOk.agg (toDs_map _) | exact ArgOk.nil_bor | exact ArgOk.nil_lst | exact ArgOk.fn | exact ArgOk.ptr rfl rfl | exact ArgOk.aggn rfl (by repeat first | exact .nil | refine .cons (.refl _) ?_ | refine .cons (.nil _) ?_)) (.cons (by first | exact ArgOk.d | exact ArgOk.bor rfl | exact ArgOk.agg rfl | exact ArgOk.agg (toDs_map _) | exact ArgOk.nil_bor | exact ArgOk.nil_lst | exact ArgOk.fn | exact ArgOk.ptr rfl rfl | exact ArgOk.aggn rfl (by repeat first | exact .nil | refine .cons (.refl _) ?_ | refine .cons (.nil _) ?_)) (.cons (by first | exact ArgOk.d | exact ArgOk.bor rfl | exact ArgOk.agg rfl | exact ArgOk.agg (toDs_map _) | exact ArgOk.nil_bor | exact ArgOk.nil_lst | exact ArgOk.fn | exact ArgOk.ptr rfl rfl | exact ArgOk.aggn rfl (by repeat first | exact .nil | refine .cons (.refl _) ?_ | refine .cons (.nil _) ?_)) (.cons (by first | exact ArgOk.d | exact ArgOk.bor rfl | exact ArgOk.agg rfl | exact ArgOk.agg (toDs_map _) | exact ArgOk.nil_bor | exact ArgOk.nil_lst | exact ArgOk.fn | exact ArgOk.ptr rfl rfl | exact ArgOk.aggn rfl (by repeat first | exact .nil | refine .cons (.refl _) ?_ | refine .cons (.nil _) ?_)) (.cons (by first | exact ArgOk.d | exact ArgOk.bor rfl | exact ArgOk.agg rfl | exact ArgOk.agg (toDs_map _) | exact ArgOk.nil_bor | exact ArgOk.nil_lst | exact ArgOk.fn | exact ArgOk.ptr rfl rfl | exact ArgOk.aggn rfl (by repeat first | exact .nil | refine .cons (.refl _) ?_ | refine .cons (.nil _) ?_)) .nil)))))))) ?_
  refine AXl.nm_i2 ?_
  refine AXl.qt rfl (by decide : (4:Nat) < 27) (q_call (c32 ⟨[49, 48, 48], false, false, [52, 97, 100], [97], [97], 1⟩) (.cons (by first | exact ArgOk.d | exact ArgOk.bor rfl | exact ArgOk.agg rfl | exact ArgOk.agg (toDs_map _) | exact ArgOk.nil_bor | exact ArgOk.nil_lst | exact ArgOk.fn | exact ArgOk.ptr rfl rfl | exact ArgOk.aggn rfl (by repeat first | exact .nil | refine .cons (.refl _) ?_ | refine .cons (.nil _) ?_)) (.cons (by first | exact ArgOk.d | exact ArgOk.bor rfl | exact ArgOk.agg rfl | exact ArgOk.agg (toDs_map _) | exact ArgOk.nil_bor | exact ArgOk.nil_lst | exact ArgOk.fn | exact ArgOk.ptr rfl rfl | exact ArgOk.aggn rfl (by repeat first | exact .nil | refine .cons (.refl _) ?_ | refine .cons (.nil _) ?_)) (.cons (by first | exact ArgOk.d | exact ArgOk.bor rfl | exact ArgOk.agg rfl | exact ArgOk.agg (toDs_map _) | exact ArgOk.nil_bor | exact ArgOk.nil_lst | exact ArgOk.fn | exact ArgOk.ptr rfl rfl | exact ArgOk.aggn rfl (by repeat first | exact .nil | refine .cons (.refl _) ?_ | refine .cons (.nil _) ?_)) (.cons (by first | exact ArgOk.d | exact ArgOk.bor rfl | exact ArgOk.agg rfl | exact ArgOk.agg (toDs_map _) | exact ArgOk.nil_bor | exact ArgOk.nil_lst | exact ArgOk.fn | exact ArgOk.ptr rfl rfl | exact ArgOk.aggn rfl (by repeat first | exact .nil | refine .cons (.refl _) ?_ | refine .cons (.nil _) ?_)) (.cons (by first | exact ArgOk.d | exact ArgOk.bor rfl | exact ArgOk.agg rfl | exact ArgOk.agg (toDs_map _) | exact ArgOk.nil_bor | exact ArgOk.nil_lst | exact ArgOk.fn | exact ArgOk.ptr rfl rfl | exact ArgOk.aggn rfl (by repeat first | exact .nil | refine .cons (.refl _) ?_ | refine .cons (.nil _) ?_)) (.cons (by first | exact ArgOk.d | exact ArgOk.bor rfl | exact ArgOk.agg rfl | exact ArgOk.agg (toDs_map _) | exact ArgOk.nil_bor | exact ArgOk.nil_lst | exact ArgOk.fn | exact ArgOk.ptr rfl rfl | exact ArgOk.aggn rfl (by repeat first | exact .nil | refine .cons (.refl _) ?_ | refine .cons (.nil _) ?_)) (.cons (by first | exact ArgOk.d | exact ArgOk.bor rfl | exact ArgOk.agg rfl | exact ArgOk.agg (toDs_map _) | exact ArgOk.nil_bor | exact ArgOk.nil_lst | exact ArgOk.fn | exact ArgOk.ptr rfl rfl | exact ArgOk.aggn rfl (by repeat first | exact .nil | refine .cons (.refl _) ?_ | refine .cons (.nil _) ?_)) .nil)))))))) ?_
  refine AXl.nm_i2 ?_
  refine AXl.qt rfl (by decide : (5:Nat) < 27) (q_call (c32 ⟨[49, 49, 48], false, false, [97, 98], [97], [97], 2⟩) (.cons (by first | exact ArgOk.d | exact ArgOk.bor rfl | exact ArgOk.agg rfl | exact ArgOk.agg (toDs_map _) | exact ArgOk.nil_bor | exact ArgOk.nil_lst | exact ArgOk.fn | exact ArgOk.ptr rfl rfl | exact ArgOk.aggn rfl (by repeat first | exact .nil | refine .cons (.refl _) ?_ | refine .cons (.nil _) ?_)) (.cons (by first | exact ArgOk.d | exact ArgOk.bor rfl | exact ArgOk.agg rfl | exact ArgOk.agg (toDs_map _) | exact ArgOk.nil_bor | exact ArgOk.nil_lst | exact ArgOk.fn | exact ArgOk.ptr rfl rfl | exact ArgOk.aggn rfl (by repeat first | exact .nil | refine .cons (.refl _) ?_ | refine .cons (.nil _) ?_)) (.cons (by first | exact ArgOk.d | exact ArgOk.bor rfl | exact ArgOk.agg rfl | exact ArgOk.agg (toDs_map _) | exact ArgOk.nil_bor | exact ArgOk.nil_lst | exact ArgOk.fn | exact ArgOk.ptr rfl rfl | exact ArgOk.aggn rfl (by repeat first | exact .nil | refine .cons (.refl _) ?_ | refine .cons (.nil _) ?_)) (.cons (by first | exact ArgOk.d | exact ArgOk.bor rfl | exact ArgOk.agg rfl | exact ArgOk.agg (toDs_map _) | exact ArgOk.nil_bor | exact ArgOk.nil_lst | exact ArgOk.fn | exact ArgOk.ptr rfl rfl | exact ArgOk.aggn rfl (by repeat first | exact .nil | refine .cons (.refl _) ?_ | refine .cons (.nil _) ?_)) (.cons (by first | exact ArgOk.d | exact ArgOk.bor rfl | exact ArgOk.agg rfl | exact ArgOk.agg (toDs_map _) | exact ArgOk.nil_bor | exact ArgOk.nil_lst | exact ArgOk.fn | exact ArgOk.ptr rfl rfl | exact ArgOk.aggn rfl (by repeat first | exact .nil | refine .cons (.refl _) ?_ | refine .cons (.nil _) ?_)) (.cons (by first | exact ArgOk.d | exact ArgOk.bor rfl | exact ArgOk.agg rfl | exact ArgOk.agg (toDs_map _) | exact ArgOk.nil_bor | exact ArgOk.nil_lst | exact ArgOk.fn | exact ArgOk.ptr rfl rfl | exact ArgOk.aggn rfl (by repeat first | exact .nil | refine .cons (.refl _) ?_ | refine .cons (.nil _) ?_)) (.cons (by first | exact ArgOk.d | exact ArgOk.bor rfl | exact ArgOk.agg rfl | exact ArgOk.agg (toDs_map _) | exact ArgOk.nil_bor | exact ArgOk.nil_lst | exact ArgOk.fn | exact ArgOk.ptr rfl rfl | exact ArgOk.aggn rfl (by repeat first | exact .nil | refine .cons (.refl _) ?_ | refine .cons (.nil _) ?_)) .nil)))))))) ?_
  refine AXl.nm_i2 ?_
  refine AXl.qt rfl (by decide : (6:Nat) < 27) (q_call (c32 ⟨[50, 52, 53], false, true, [97, 98, 99, 110, 112], [97, 99], [97], 0⟩) (.cons (by first | exact ArgOk.d | exact ArgOk.bor rfl | exact ArgOk.agg rfl | exact ArgOk.agg (toDs_map _) | exact ArgOk.nil_bor | exact ArgOk.nil_lst | exact ArgOk.fn | exact ArgOk.ptr rfl rfl | exact ArgOk.aggn rfl (by repeat first | exact .nil | refine .cons (.refl _) ?_ | refine .cons (.nil _) ?_)) (.cons (by first | exact ArgOk.d | exact ArgOk.bor rfl | exact ArgOk.agg rfl | exact ArgOk.agg (toDs_map _) | exact ArgOk.nil_bor | exact ArgOk.nil_lst | exact ArgOk.fn | exact ArgOk.ptr rfl rfl | exact ArgOk.aggn rfl (by repeat first | exact .nil | refine .cons (.refl _) ?_ | refine .cons (.nil _) ?_)) (.cons (by first | exact ArgOk.d | exact ArgOk.bor rfl | exact ArgOk.agg rfl | exact ArgOk.agg (toDs_map _) | exact ArgOk.nil_bor | exact ArgOk.nil_lst | exact ArgOk.fn | exact ArgOk.ptr rfl rfl | exact ArgOk.aggn rfl (by repeat first | exact .nil | refine .cons (.refl _) ?_ | refine .cons (.nil _) ?_)) (.cons (by first | exact ArgOk.d | exact ArgOk.bor rfl | exact ArgOk.agg rfl | exact ArgOk.agg (toDs_map _) | exact ArgOk.nil_bor | exact ArgOk.nil_lst | exact ArgOk.fn | exact ArgOk.ptr rfl rfl | exact ArgOk.aggn rfl (by repeat first | exact .nil | refine .cons (.refl _) ?_ | refine .cons (.nil _) ?_)) (.cons (by first | exact ArgOk.d | exact ArgOk.bor rfl | exact ArgOk.agg rfl | exact ArgOk.agg (toDs_map _) | exact ArgOk.nil_bor | exact ArgOk.nil_lst | exact ArgOk.fn | exact ArgOk.ptr rfl rfl | exact ArgOk.aggn rfl (by repeat first | exact .nil | refine .cons (.refl _) ?_ | refine .cons (.nil _) ?_)) (.cons (by first | exact ArgOk.d | exact ArgOk.bor rfl | exact ArgOk.agg rfl | exact ArgOk.agg (toDs_map _) | exact ArgOk.nil_bor | exact ArgOk.nil_lst | exact ArgOk.fn | exact ArgOk.ptr rfl rfl | exact ArgOk.aggn rfl (by repeat first | exact .nil | refine .cons (.refl _) ?_ | refine .cons (.nil _) ?_)) (.cons (by first | exact ArgOk.d | exact ArgOk.bor rfl | exact ArgOk.agg rfl | exact ArgOk.agg (toDs_map _) | exact ArgOk.nil_bor | exact ArgOk.nil_lst | exact ArgOk.fn | exact ArgOk.ptr rfl rfl | exact ArgOk.aggn rfl (by repeat first | exact .nil | refine .cons (.refl _) ?_ | refine .cons (.nil _) ?_)) .nil)))))))) ?_
  refine AXl.nm_i2 ?_
  refine AXl.qt rfl (by decide : (7:Nat) < 27) (q_call (c32 ⟨[50, 52, 54], true, false, [97, 98], [97], [97], 0⟩) (.cons (by first | exact ArgOk.d | exact ArgOk.bor rfl | exact ArgOk.agg rfl | exact ArgOk.agg (toDs_map _) | exact ArgOk.nil_bor | exact ArgOk.nil_lst | exact ArgOk.fn | exact ArgOk.ptr rfl rfl | exact ArgOk.aggn rfl (by repeat first | exact .nil | refine .cons (.refl _) ?_ | refine .cons (.nil _) ?_)) (.cons (by first | exact ArgOk.d | exact ArgOk.bor rfl | exact ArgOk.agg rfl | exact ArgOk.agg (toDs_map _) | exact ArgOk.nil_bor | exact ArgOk.nil_lst | exact ArgOk.fn | exact ArgOk.ptr rfl rfl | exact ArgOk.aggn rfl (by repeat first | exact .nil | refine .cons (.refl _) ?_ | refine .cons (.nil _) ?_)) (.cons (by first | exact ArgOk.d | exact ArgOk.bor rfl | exact ArgOk.agg rfl | exact ArgOk.agg (toDs_map _) | exact ArgOk.nil_bor | exact ArgOk.nil_lst | exact ArgOk.fn | exact ArgOk.ptr rfl rfl | exact ArgOk.aggn rfl (by repeat first | exact .nil | refine .cons (.refl _) ?_ | refine .cons (.nil _) ?_)) (.cons (by first | exact ArgOk.d | exact ArgOk.bor rfl | exact ArgOk.agg rfl | exact ArgOk.agg (toDs_map _) | exact ArgOk.nil_bor | exact ArgOk.nil_lst | exact ArgOk.fn | exact ArgOk.ptr rfl rfl | exact ArgOk.aggn rfl (by repeat first | exact .nil | refine .cons (.refl _) ?_ | refine .cons (.nil _) ?_)) (.cons (by first | exact ArgOk.d | exact ArgOk.bor rfl | exact ArgOk.agg rfl | exact ArgOk.agg (toDs_map _) | exact ArgOk.nil_bor | exact ArgOk.nil_lst | exact ArgOk.fn | exact ArgOk.ptr rfl rfl | exact ArgOk.aggn rfl (by repeat first | exact .nil | refine .cons (.refl _) ?_ | refine .cons (.nil _) ?_)) (.cons (by first | exact ArgOk.d | exact ArgOk.bor rfl | exact ArgOk.agg rfl | exact ArgOk.agg (toDs_map _) | exact ArgOk.nil_bor | exact ArgOk.nil_lst | exact ArgOk.fn | exact ArgOk.ptr rfl rfl | exact ArgOk.aggn rfl (by repeat first | exact .nil | refine .cons (.refl _) ?_ | refine .cons (.nil _) ?_)) (.cons (by first | exact ArgOk.d | exact ArgOk.bor rfl | exact ArgOk.agg rfl | exact ArgOk.agg (toDs_map _) | exact ArgOk.nil_bor | exact ArgOk.nil_lst | exact ArgOk.fn | exact ArgOk.ptr rfl rfl | exact ArgOk.aggn rfl (by repeat first | exact .nil | refine .cons (.refl _) ?_ | refine .cons (.nil _) ?_)) .nil)))))))) ?_
  refine AXl.nm_i2 ?_
  refine AXl.qt rfl (by decide : (8:Nat) < 27) (q_call (c32 ⟨[50, 53, 48], false, false, [97, 98], [], [], 0⟩) (.cons (by first | exact ArgOk.d | exact ArgOk.bor rfl | exact ArgOk.agg rfl | exact ArgOk.agg (toDs_map _) | exact ArgOk.nil_bor | exact ArgOk.nil_lst | exact ArgOk.fn | exact ArgOk.ptr rfl rfl | exact ArgOk.aggn rfl (by repeat first | exact .nil | refine .cons (.refl _) ?_ | refine .cons (.nil _) ?_)) (.cons (by first | exact ArgOk.d | exact ArgOk.bor rfl | exact ArgOk.agg rfl | exact ArgOk.agg (toDs_map _) | exact ArgOk.nil_bor | exact ArgOk.nil_lst | exact ArgOk.fn | exact ArgOk.ptr rfl rfl | exact ArgOk.aggn rfl (by repeat first | exact .nil | refine .cons (.refl _) ?_ | refine .cons (.nil _) ?_)) (.cons (by first | exact ArgOk.d | exact ArgOk.bor rfl | exact ArgOk.agg rfl | exact ArgOk.agg (toDs_map _) | exact ArgOk.nil_bor | exact ArgOk.nil_lst | exact ArgOk.fn | exact ArgOk.ptr rfl rfl | exact ArgOk.aggn rfl (by repeat first | exact .nil | refine .cons (.refl _) ?_ | refine .cons (.nil _) ?_)) (.cons (by first | exact ArgOk.d | exact ArgOk.bor rfl | exact ArgOk.agg rfl | exact ArgOk.agg (toDs_map _) | exact ArgOk.nil_bor | exact ArgOk.nil_lst | exact ArgOk.fn | exact ArgOk.ptr rfl rfl | exact ArgOk.aggn rfl (by repeat first | exact .nil | refine .cons (.refl _) ?_ | refine .cons (.nil _) ?_)) (.cons (by first | exact ArgOk.d | exact ArgOk.bor rfl | exact ArgOk.agg rfl | exact ArgOk.agg (toDs_map _) | exact ArgOk.nil_bor | exact ArgOk.nil_lst | exact ArgOk.fn | exact ArgOk.ptr rfl rfl | exact ArgOk.aggn rfl (by repeat first | exact .nil | refine .cons (.refl _) ?_ | refine .cons (.nil _) ?_)) (.cons (by first | exact ArgOk.d | exact ArgOk.bor rfl | exact ArgOk.agg rfl | exact ArgOk.agg (toDs_map _) | exact ArgOk.nil_bor | exact ArgOk.nil_lst | exact ArgOk.fn | exact ArgOk.ptr rfl rfl | exact ArgOk.aggn rfl (by repeat first | exact .nil | refine .cons (.refl _) ?_ | refine .cons (.nil _) ?_)) (.cons (by first | exact ArgOk.d | exact ArgOk.bor rfl | exact ArgOk.agg rfl | exact ArgOk.agg (toDs_map _) | exact ArgOk.nil_bor | exact ArgOk.nil_lst | exact ArgOk.fn | exact ArgOk.ptr rfl rfl | exact ArgOk.aggn rfl (by repeat first | exact .nil | refine .cons (.refl _) ?_ | refine .cons (.nil _) ?_)) .nil)))))))) ?_
  refine AXl.nm_i2 ?_
  refine AXl.qt rfl (by decide : (9:Nat) < 27) (q_call (c32 ⟨[50, 54, 48], true, false, [97, 98, 99], [], [], 0⟩) (.cons (by first | exact ArgOk.d | exact ArgOk.bor rfl | exact ArgOk.agg rfl | exact ArgOk.agg (toDs_map _) | exact ArgOk.nil_bor | exact ArgOk.nil_lst | exact ArgOk.fn | exact ArgOk.ptr rfl rfl | exact ArgOk.aggn rfl (by repeat first | exact .nil | refine .cons (.refl _) ?_ | refine .cons (.nil _) ?_)) (.cons (by first | exact ArgOk.d | exact ArgOk.bor rfl | exact ArgOk.agg rfl | exact ArgOk.agg (toDs_map _) | exact ArgOk.nil_bor | exact ArgOk.nil_lst | exact ArgOk.fn | exact ArgOk.ptr rfl rfl | exact ArgOk.aggn rfl (by repeat first | exact .nil | refine .cons (.refl _) ?_ | refine .cons (.nil _) ?_)) (.cons (by first | exact ArgOk.d | exact ArgOk.bor rfl | exact ArgOk.agg rfl | exact ArgOk.agg (toDs_map _) | exact ArgOk.nil_bor | exact ArgOk.nil_lst | exact ArgOk.fn | exact ArgOk.ptr rfl rfl | exact ArgOk.aggn rfl (by repeat first | exact .nil | refine .cons (.refl _) ?_ | refine .cons (.nil _) ?_)) (.cons (by first | exact ArgOk.d | exact ArgOk.bor rfl | exact ArgOk.agg rfl | exact ArgOk.agg (toDs_map _) | exact ArgOk.nil_bor | exact ArgOk.nil_lst | exact ArgOk.fn | exact ArgOk.ptr rfl rfl | exact ArgOk.aggn rfl (by repeat first | exact .nil | refine .cons (.refl _) ?_ | refine .cons (.nil _) ?_)) (.cons (by first | exact ArgOk.d | exact ArgOk.bor rfl | exact ArgOk.agg rfl | exact ArgOk.agg (toDs_map _) | exact ArgOk.nil_bor | exact ArgOk.nil_lst | exact ArgOk.fn | exact ArgOk.ptr rfl rfl | exact ArgOk.aggn rfl (by repeat first | exact .nil | refine .cons (.refl _) ?_ | refine .cons (.nil _) ?_)) (.cons (by first | exact ArgOk.d | exact ArgOk.bor rfl | exact ArgOk.agg rfl | exact ArgOk.agg (toDs_map _) | exact ArgOk.nil_bor | exact ArgOk.nil_lst | exact ArgOk.fn | exact ArgOk.ptr rfl rfl | exact ArgOk.aggn rfl (by repeat first | exact .nil | refine .cons (.refl _) ?_ | refine .cons (.nil _) ?_)) (.cons (by first | exact ArgOk.d | exact ArgOk.bor rfl | exact ArgOk.agg rfl | exact ArgOk.agg (toDs_map _) | exact ArgOk.nil_bor | exact ArgOk.nil_lst | exact ArgOk.fn | exact ArgOk.ptr rfl rfl | exact ArgOk.aggn rfl (by repeat first | exact .nil | refine .cons (.refl _) ?_ | refine .cons (.nil _) ?_)) .nil)))))))) ?_
  refine AXl.nm_i2 ?_
  refine AXl.qt rfl (by decide : (10:Nat) < 27) (q_call (c32 ⟨[50, 54, 52], true, false, [97, 98, 99], [], [], 0⟩) (.cons (by first | exact ArgOk.d | exact ArgOk.bor rfl | exact ArgOk.agg rfl | exact ArgOk.agg (toDs_map _) | exact ArgOk.nil_bor | exact ArgOk.nil_lst | exact ArgOk.fn | exact ArgOk.ptr rfl rfl | exact ArgOk.aggn rfl (by repeat first | exact .nil | refine .cons (.refl _) ?_ | refine .cons (.nil _) ?_)) (.cons (by first | exact ArgOk.d | exact ArgOk.bor rfl | exact ArgOk.agg rfl | exact ArgOk.agg (toDs_map _) | exact ArgOk.nil_bor | exact ArgOk.nil_lst | exact ArgOk.fn | exact ArgOk.ptr rfl rfl | exact ArgOk.aggn rfl (by repeat first | exact .nil | refine .cons (.refl _) ?_ | refine .cons (.nil _) ?_)) (.cons (by first | exact ArgOk.d | exact ArgOk.bor rfl | exact ArgOk.agg rfl | exact ArgOk.agg (toDs_map _) | exact ArgOk.nil_bor | exact ArgOk.nil_lst | exact ArgOk.fn | exact ArgOk.ptr rfl rfl | exact ArgOk.aggn rfl (by repeat first | exact .nil | refine .cons (.refl _) ?_ | refine .cons (.nil _) ?_)) (.cons (by first | exact ArgOk.d | exact ArgOk.bor rfl | exact ArgOk.agg rfl | exact ArgOk.agg (toDs_map _) | exact ArgOk.nil_bor | exact ArgOk.nil_lst | exact ArgOk.fn | exact ArgOk.ptr rfl rfl | exact ArgOk.aggn rfl (by repeat first | exact .nil | refine .cons (.refl _) ?_ | refine .cons (.nil _) ?_)) (.cons (by first | exact ArgOk.d | exact ArgOk.bor rfl | exact ArgOk.agg rfl | exact ArgOk.agg (toDs_map _) | exact ArgOk.nil_bor | exact ArgOk.nil_lst | exact ArgOk.fn | exact ArgOk.ptr rfl rfl | exact ArgOk.aggn rfl (by repeat first | exact .nil | refine .cons (.refl _) ?_ | refine .cons (.nil _) ?_)) (.cons (by first | exact ArgOk.d | exact ArgOk.bor rfl | exact ArgOk.agg rfl | exact ArgOk.agg (toDs_map _) | exact ArgOk.nil_bor | exact ArgOk.nil_lst | exact ArgOk.fn | exact ArgOk.ptr rfl rfl | exact ArgOk.aggn rfl (by repeat first | exact .nil | refine .cons (.refl _) ?_ | refine .cons (.nil _) ?_)) (.cons (by first | exact ArgOk.d | exact ArgOk.bor rfl | exact ArgOk.agg rfl | exact ArgOk.agg (toDs_map _) | exact ArgOk.nil_bor | exact ArgOk.nil_lst | exact ArgOk.fn | exact ArgOk.ptr rfl rfl | exact ArgOk.aggn rfl (by repeat first | exact .nil | refine .cons (.refl _) ?_ | refine .cons (.nil _) ?_)) .nil)))))))) ?_
  refine AXl.nm_i2 ?_
  refine AXl.qt rfl (by decide : (11:Nat) < 27) (q_call (c32 ⟨[51, 48, 48], true, false, [97, 98, 99], [], [], 0⟩) (.cons (by first | exact ArgOk.d | exact ArgOk.bor rfl | exact ArgOk.agg rfl | exact ArgOk.agg (toDs_map _) | exact ArgOk.nil_bor | exact ArgOk.nil_lst | exact ArgOk.fn | exact ArgOk.ptr rfl rfl | exact ArgOk.aggn rfl (by repeat first | exact .nil | refine .cons (.refl _) ?_ | refine .cons (.nil _) ?_)) (.cons (by first | exact ArgOk.d | exact ArgOk.bor rfl | exact ArgOk.agg rfl | exact ArgOk.agg (toDs_map _) | exact ArgOk.nil_bor | exact ArgOk.nil_lst | exact ArgOk.fn | exact ArgOk.ptr rfl rfl | exact ArgOk.aggn rfl (by repeat first | exact .nil | refine .cons (.refl _) ?_ | refine .cons (.nil _) ?_)) (.cons (by first | exact ArgOk.d | exact ArgOk.bor rfl | exact ArgOk.agg rfl | exact ArgOk.agg (toDs_map _) | exact ArgOk.nil_bor | exact ArgOk.nil_lst | exact ArgOk.fn | exact ArgOk.ptr rfl rfl | exact ArgOk.aggn rfl (by repeat first | exact .nil | refine .cons (.refl _) ?_ | refine .cons (.nil _) ?_)) (.cons (by first | exact ArgOk.d | exact ArgOk.bor rfl | exact ArgOk.agg rfl | exact ArgOk.agg (toDs_map _) | exact ArgOk.nil_bor | exact ArgOk.nil_lst | exact ArgOk.fn | exact ArgOk.ptr rfl rfl | exact ArgOk.aggn rfl (by repeat first | exact .nil | refine .cons (.refl _) ?_ | refine .cons (.nil _) ?_)) (.cons (by first | exact ArgOk.d | exact ArgOk.bor rfl | exact ArgOk.agg rfl | exact ArgOk.agg (toDs_map _) | exact ArgOk.nil_bor | exact ArgOk.nil_lst | exact ArgOk.fn | exact ArgOk.ptr rfl rfl | exact ArgOk.aggn rfl (by repeat first | exact .nil | refine .cons (.refl _) ?_ | refine .cons (.nil _) ?_)) (.cons (by first | exact ArgOk.d | exact ArgOk.bor rfl | exact ArgOk.agg rfl | exact ArgOk.agg (toDs_map _) | exact ArgOk.nil_bor | exact ArgOk.nil_lst | exact ArgOk.fn | exact ArgOk.ptr rfl rfl | exact ArgOk.aggn rfl (by repeat first | exact .nil | refine .cons (.refl _) ?_ | refine .cons (.nil _) ?_)) (.cons (by first | exact ArgOk.d | exact ArgOk.bor rfl | exact ArgOk.agg rfl | exact ArgOk.agg (toDs_map _) | exact ArgOk.nil_bor | exact ArgOk.nil_lst | exact ArgOk.fn | exact ArgOk.ptr rfl rfl | exact ArgOk.aggn rfl (by repeat first | exact .nil | refine .cons (.refl _) ?_ | refine .cons (.nil _) ?_)) .nil)))))))) ?_
  refine AXl.nm_i2 ?_
  refine AXl.qt rfl (by decide : (12:Nat) < 27) (q_call (c32 ⟨[52, 52, 48], true, false, [97, 118], [97], [97], 4⟩) (.cons (by first | exact ArgOk.d | exact ArgOk.bor rfl | exact ArgOk.agg rfl | exact ArgOk.agg (toDs_map _) | exact ArgOk.nil_bor | exact ArgOk.nil_lst | exact ArgOk.fn | exact ArgOk.ptr rfl rfl | exact ArgOk.aggn rfl (by repeat first | exact .nil | refine .cons (.refl _) ?_ | refine .cons (.nil _) ?_)) (.cons (by first | exact ArgOk.d | exact ArgOk.bor rfl | exact ArgOk.agg rfl | exact ArgOk.agg (toDs_map _) | exact ArgOk.nil_bor | exact ArgOk.nil_lst | exact ArgOk.fn | exact ArgOk.ptr rfl rfl | exact ArgOk.aggn rfl (by repeat first | exact .nil | refine .cons (.refl _) ?_ | refine .cons (.nil _) ?_)) (.cons (by first | exact ArgOk.d | exact ArgOk.bor rfl | exact ArgOk.agg rfl | exact ArgOk.agg (toDs_map _) | exact ArgOk.nil_bor | exact ArgOk.nil_lst | exact ArgOk.fn | exact ArgOk.ptr rfl rfl | exact ArgOk.aggn rfl (by repeat first | exact .nil | refine .cons (.refl _) ?_ | refine .cons (.nil _) ?_)) (.cons (by first | exact ArgOk.d | exact ArgOk.bor rfl | exact ArgOk.agg rfl | exact ArgOk.agg (toDs_map _) | exact ArgOk.nil_bor | exact ArgOk.nil_lst | exact ArgOk.fn | exact ArgOk.ptr rfl rfl | exact ArgOk.aggn rfl (by repeat first | exact .nil | refine .cons (.refl _) ?_ | refine .cons (.nil _) ?_)) (.cons (by first | exact ArgOk.d | exact ArgOk.bor rfl | exact ArgOk.agg rfl | exact ArgOk.agg (toDs_map _) | exact ArgOk.nil_bor | exact ArgOk.nil_lst | exact ArgOk.fn | exact ArgOk.ptr rfl rfl | exact ArgOk.aggn rfl (by repeat first | exact .nil | refine .cons (.refl _) ?_ | refine .cons (.nil _) ?_)) (.cons (by first | exact ArgOk.d | exact ArgOk.bor rfl | exact ArgOk.agg rfl | exact ArgOk.agg (toDs_map _) | exact ArgOk.nil_bor | exact ArgOk.nil_lst | exact ArgOk.fn | exact ArgOk.ptr rfl rfl | exact ArgOk.aggn rfl (by repeat first | exact .nil | refine .cons (.refl _) ?_ | refine .cons (.nil _) ?_)) (.cons (by first | exact ArgOk.d | exact ArgOk.bor rfl | exact ArgOk.agg rfl | exact ArgOk.agg (toDs_map _) | exact ArgOk.nil_bor | exact ArgOk.nil_lst | exact ArgOk.fn | exact ArgOk.ptr rfl rfl | exact ArgOk.aggn rfl (by repeat first | exact .nil | refine .cons (.refl _) ?_ | refine .cons (.nil _) ?_)) .nil)))))))) ?_
  refine AXl.nm_i2 ?_
  refine AXl.qt rfl (by decide : (13:Nat) < 27) (q_call (c32 ⟨[52, 57, 48], true, false, [97, 118], [97], [97], 0⟩) (.cons (by first | exact ArgOk.d | exact ArgOk.bor rfl | exact ArgOk.agg rfl | exact ArgOk.agg (toDs_map _) | exact ArgOk.nil_bor | exact ArgOk.nil_lst | exact ArgOk.fn | exact ArgOk.ptr rfl rfl | exact ArgOk.aggn rfl (by repeat first | exact .nil | refine .cons (.refl _) ?_ | refine .cons (.nil _) ?_)) (.cons (by first | exact ArgOk.d | exact ArgOk.bor rfl | exact ArgOk.agg rfl | exact ArgOk.agg (toDs_map _) | exact ArgOk.nil_bor | exact ArgOk.nil_lst | exact ArgOk.fn | exact ArgOk.ptr rfl rfl | exact ArgOk.aggn rfl (by repeat first | exact .nil | refine .cons (.refl _) ?_ | refine .cons (.nil _) ?_)) (.cons (by first | exact ArgOk.d | exact ArgOk.bor rfl | exact ArgOk.agg rfl | exact ArgOk.agg (toDs_map _) | exact ArgOk.nil_bor | exact ArgOk.nil_lst | exact ArgOk.fn | exact ArgOk.ptr rfl rfl | exact ArgOk.aggn rfl (by repeat first | exact .nil | refine .cons (.refl _) ?_ | refine .cons (.nil _) ?_)) (.cons (by first | exact ArgOk.d | exact ArgOk.bor rfl | exact ArgOk.agg rfl | exact ArgOk.agg (toDs_map _) | exact ArgOk.nil_bor | exact ArgOk.nil_lst | exact ArgOk.fn | exact ArgOk.ptr rfl rfl | exact ArgOk.aggn rfl (by repeat first | exact .nil | refine .cons (.refl _) ?_ | refine .cons (.nil _) ?_)) (.cons (by first | exact ArgOk.d | exact ArgOk.bor rfl | exact ArgOk.agg rfl | exact ArgOk.agg (toDs_map _) | exact ArgOk.nil_bor | exact ArgOk.nil_lst | exact ArgOk.fn | exact ArgOk.ptr rfl rfl | exact ArgOk.aggn rfl (by repeat first | exact .nil | refine .cons (.refl _) ?_ | refine .cons (.nil _) ?_)) (.cons (by first | exact ArgOk.d | exact ArgOk.bor rfl | exact ArgOk.agg rfl | exact ArgOk.agg (toDs_map _) | exact ArgOk.nil_bor | exact ArgOk.nil_lst | exact ArgOk.fn | exact ArgOk.ptr rfl rfl | exact ArgOk.aggn rfl (by repeat first | exact .nil | refine .cons (.refl _) ?_ | refine .cons (.nil _) ?_)) (.cons (by first | exact ArgOk.d | exact ArgOk.bor rfl | exact ArgOk.agg rfl | exact ArgOk.agg (toDs_map _) | exact ArgOk.nil_bor | exact ArgOk.nil_lst | exact ArgOk.fn | exact ArgOk.ptr rfl rfl | exact ArgOk.aggn rfl (by repeat first | exact .nil | refine .cons (.refl _) ?_ | refine .cons (.nil _) ?_)) .nil)))))))) ?_
  refine AXl.nm_i2 ?_
  refine AXl.qt rfl (by decide : (14:Nat) < 27) (q_call (c32 ⟨[53, 48, 48], true, false, [97], [97], [97], 0⟩) (.cons (by first | exact ArgOk.d | exact ArgOk.bor rfl | exact ArgOk.agg rfl | exact ArgOk.agg (toDs_map _) | exact ArgOk.nil_bor | exact ArgOk.nil_lst | exact ArgOk.fn | exact ArgOk.ptr rfl rfl | exact ArgOk.aggn rfl (by repeat first | exact .nil | refine .cons (.refl _) ?_ | refine .cons (.nil _) ?_)) (.cons (by first | exact ArgOk.d | exact ArgOk.bor rfl | exact ArgOk.agg rfl | exact ArgOk.agg (toDs_map _) | exact ArgOk.nil_bor | exact ArgOk.nil_lst | exact ArgOk.fn | exact ArgOk.ptr rfl rfl | exact ArgOk.aggn rfl (by repeat first | exact .nil | refine .cons (.refl _) ?_ | refine .cons (.nil _) ?_)) (.cons (by first | exact ArgOk.d | exact ArgOk.bor rfl | exact ArgOk.agg rfl | exact ArgOk.agg (toDs_map _) | exact ArgOk.nil_bor | exact ArgOk.nil_lst | exact ArgOk.fn | exact ArgOk.ptr rfl rfl | exact ArgOk.aggn rfl (by repeat first | exact .nil | refine .cons (.refl _) ?_ | refine .cons (.nil _) ?_)) (.cons (by first | exact ArgOk.d | exact ArgOk.bor rfl | exact ArgOk.agg rfl | exact ArgOk.agg (toDs_map _) | exact ArgOk.nil_bor | exact ArgOk.nil_lst | exact ArgOk.fn | exact ArgOk.ptr rfl rfl | exact ArgOk.aggn rfl (by repeat first | exact .nil | refine .cons (.refl _) ?_ | refine .cons (.nil _) ?_)) (.cons (by first | exact ArgOk.d | exact ArgOk.bor rfl | exact ArgOk.agg rfl | exact ArgOk.agg (toDs_map _) | exact ArgOk.nil_bor | exact ArgOk.nil_lst | exact ArgOk.fn | exact ArgOk.ptr rfl rfl | exact ArgOk.aggn rfl (by repeat first | exact .nil | refine .cons (.refl _) ?_ | refine .cons (.nil _) ?_)) (.cons (by first | exact ArgOk.d | exact ArgOk.bor rfl | exact ArgOk.agg rfl | exact ArgOk.agg (toDs_map _) | exact ArgOk.nil_bor | exact ArgOk.nil_lst | exact ArgOk.fn | exact ArgOk.ptr rfl rfl | exact ArgOk.aggn rfl (by repeat first | exact .nil | refine .cons (.refl _) ?_ | refine .cons (.nil _) ?_)) (.cons (by first | exact ArgOk.d | exact ArgOk.bor rfl | exact ArgOk.agg rfl | exact ArgOk.agg (toDs_map _) | exact ArgOk.nil_bor | exact ArgOk.nil_lst | exact ArgOk.fn | exact ArgOk.ptr rfl rfl | exact ArgOk.aggn rfl (by repeat first | exact .nil | refine .cons (.refl _) ?_ | refine .cons (.nil _) ?_)) .nil)))))))) ?_
  refine AXl.nm_i2 ?_
  refine AXl.qt rfl (by decide : (15:Nat) < 27) (q_call (c32 ⟨[53, 50, 48], true, false, [97], [], [], 0⟩) (.cons (by first | exact ArgOk.d | exact ArgOk.bor rfl | exact ArgOk.agg rfl | exact ArgOk.agg (toDs_map _) | exact ArgOk.nil_bor | exact ArgOk.nil_lst | exact ArgOk.fn | exact ArgOk.ptr rfl rfl | exact ArgOk.aggn rfl (by repeat first | exact .nil | refine .cons (.refl _) ?_ | refine .cons (.nil _) ?_)) (.cons (by first | exact ArgOk.d | exact ArgOk.bor rfl | exact ArgOk.agg rfl | exact ArgOk.agg (toDs_map _) | exact ArgOk.nil_bor | exact ArgOk.nil_lst | exact ArgOk.fn | exact ArgOk.ptr rfl rfl | exact ArgOk.aggn rfl (by repeat first | exact .nil | refine .cons (.refl _) ?_ | refine .cons (.nil _) ?_)) (.cons (by first | exact ArgOk.d | exact ArgOk.bor rfl | exact ArgOk.agg rfl | exact ArgOk.agg (toDs_map _) | exact ArgOk.nil_bor | exact ArgOk.nil_lst | exact ArgOk.fn | exact ArgOk.ptr rfl rfl | exact ArgOk.aggn rfl (by repeat first | exact .nil | refine .cons (.refl _) ?_ | refine .cons (.nil _) ?_)) (.cons (by first | exact ArgOk.d | exact ArgOk.bor rfl | exact ArgOk.agg rfl | exact ArgOk.agg (toDs_map _) | exact ArgOk.nil_bor | exact ArgOk.nil_lst | exact ArgOk.fn | exact ArgOk.ptr rfl rfl | exact ArgOk.aggn rfl (by repeat first | exact .nil | refine .cons (.refl _) ?_ | refine .cons (.nil _) ?_)) (.cons (by first | exact ArgOk.d | exact ArgOk.bor rfl | exact ArgOk.agg rfl | exact ArgOk.agg (toDs_map _) | exact ArgOk.nil_bor | exact ArgOk.nil_lst | exact ArgOk.fn | exact ArgOk.ptr rfl rfl | exact ArgOk.aggn rfl (by repeat first | exact .nil | refine .cons (.refl _) ?_ | refine .cons (.nil _) ?_)) (.cons (by first | exact ArgOk.d | exact ArgOk.bor rfl | exact ArgOk.agg rfl | exact ArgOk.agg (toDs_map _) | exact ArgOk.nil_bor | exact ArgOk.nil_lst | exact ArgOk.fn | exact ArgOk.ptr rfl rfl | exact ArgOk.aggn rfl (by repeat first | exact .nil | refine .cons (.refl _) ?_ | refine .cons (.nil _) ?_)) (.cons (by first | exact ArgOk.d | exact ArgOk.bor rfl | exact ArgOk.agg rfl | exact ArgOk.agg (toDs_map _) | exact ArgOk.nil_bor | exact ArgOk.nil_lst | exact ArgOk.fn | exact ArgOk.ptr rfl rfl | exact ArgOk.aggn rfl (by repeat first | exact .nil | refine .cons (.refl _) ?_ | refine .cons (.nil _) ?_)) .nil)))))))) ?_
  refine AXl.nm_i2 ?_
  refine AXl.qt rfl (by decide : (16:Nat) < 27) (q_call (c32 ⟨[54, 48, 48], true, false, [97, 100, 120, 121, 122], [97], [97], 1⟩) (.cons (by first | exact ArgOk.d | exact ArgOk.bor rfl | exact ArgOk.agg rfl | exact ArgOk.agg (toDs_map _) | exact ArgOk.nil_bor | exact ArgOk.nil_lst | exact ArgOk.fn | exact ArgOk.ptr rfl rfl | exact ArgOk.aggn rfl (by repeat first | exact .nil | refine .cons (.refl _) ?_ | refine .cons (.nil _) ?_)) (.cons (by first | exact ArgOk.d | exact ArgOk.bor rfl | exact ArgOk.agg rfl | exact ArgOk.agg (toDs_map _) | exact ArgOk.nil_bor | exact ArgOk.nil_lst | exact ArgOk.fn | exact ArgOk.ptr rfl rfl | exact ArgOk.aggn rfl (by repeat first | exact .nil | refine .cons (.refl _) ?_ | refine .cons (.nil _) ?_)) (.cons (by first | exact ArgOk.d | exact ArgOk.bor rfl | exact ArgOk.agg rfl | exact ArgOk.agg (toDs_map _) | exact ArgOk.nil_bor | exact ArgOk.nil_lst | exact ArgOk.fn | exact ArgOk.ptr rfl rfl | exact ArgOk.aggn rfl (by repeat first | exact .nil | refine .cons (.refl _) ?_ | refine .cons (.nil _) ?_)) (.cons (by first | exact ArgOk.d | exact ArgOk.bor rfl | exact ArgOk.agg rfl | exact ArgOk.agg (toDs_map _) | exact ArgOk.nil_bor | exact ArgOk.nil_lst | exact ArgOk.fn | exact ArgOk.ptr rfl rfl | exact ArgOk.aggn rfl (by repeat first | exact .nil | refine .cons (.refl _) ?_ | refine .cons (.nil _) ?_)) (.cons (by first | exact ArgOk.d | exact ArgOk.bor rfl | exact ArgOk.agg rfl | exact ArgOk.agg (toDs_map _) | exact ArgOk.nil_bor | exact ArgOk.nil_lst | exact ArgOk.fn | exact ArgOk.ptr rfl rfl | exact ArgOk.aggn rfl (by repeat first | exact .nil | refine .cons (.refl _) ?_ | refine .cons (.nil _) ?_)) (.cons (by first | exact ArgOk.d | exact ArgOk.bor rfl | exact ArgOk.agg rfl | exact ArgOk.agg (toDs_map _) | exact ArgOk.nil_bor | exact ArgOk.nil_lst | exact ArgOk.fn | exact ArgOk.ptr rfl rfl | exact ArgOk.aggn rfl (by repeat first | exact .nil | refine .cons (.refl _) ?_ | refine .cons (.nil _) ?_)) (.cons (by first | exact ArgOk.d | exact ArgOk.bor rfl | exact ArgOk.agg rfl | exact ArgOk.agg (toDs_map _) | exact ArgOk.nil_bor | exact ArgOk.nil_lst | exact ArgOk.fn | exact ArgOk.ptr rfl rfl | exact ArgOk.aggn rfl (by repeat first | exact .nil | refine .cons (.refl _) ?_ | refine .cons (.nil _) ?_)) .nil)))))))) ?_
  refine AXl.nm_i2 ?_
  refine AXl.qt rfl (by decide : (17:Nat) < 27) (q_call (c32 ⟨[54, 49, 48], true, false, [97, 98, 120, 121, 122], [97], [97], 2⟩) (.cons (by first | exact ArgOk.d | exact ArgOk.bor rfl | exact ArgOk.agg rfl | exact ArgOk.agg (toDs_map _) | exact ArgOk.nil_bor | exact ArgOk.nil_lst | exact ArgOk.fn | exact ArgOk.ptr rfl rfl | exact ArgOk.aggn rfl (by repeat first | exact .nil | refine .cons (.refl _) ?_ | refine .cons (.nil _) ?_)) (.cons (by first | exact ArgOk.d | exact ArgOk.bor rfl | exact ArgOk.agg rfl | exact ArgOk.agg (toDs_map _) | exact ArgOk.nil_bor | exact ArgOk.nil_lst | exact ArgOk.fn | exact ArgOk.ptr rfl rfl | exact ArgOk.aggn rfl (by repeat first | exact .nil | refine .cons (.refl _) ?_ | refine .cons (.nil _) ?_)) (.cons (by first | exact ArgOk.d | exact ArgOk.bor rfl | exact ArgOk.agg rfl | exact ArgOk.agg (toDs_map _) | exact ArgOk.nil_bor | exact ArgOk.nil_lst | exact ArgOk.fn | exact ArgOk.ptr rfl rfl | exact ArgOk.aggn rfl (by repeat first | exact .nil | refine .cons (.refl _) ?_ | refine .cons (.nil _) ?_)) (.cons (by first | exact ArgOk.d | exact ArgOk.bor rfl | exact ArgOk.agg rfl | exact ArgOk.agg (toDs_map _) | exact ArgOk.nil_bor | exact ArgOk.nil_lst | exact ArgOk.fn | exact ArgOk.ptr rfl rfl | exact ArgOk.aggn rfl (by repeat first | exact .nil | refine .cons (.refl _) ?_ | refine .cons (.nil _) ?_)) (.cons (by first | exact ArgOk.d | exact ArgOk.bor rfl | exact ArgOk.agg rfl | exact ArgOk.agg (toDs_map _) | exact ArgOk.nil_bor | exact ArgOk.nil_lst | exact ArgOk.fn | exact ArgOk.ptr rfl rfl | exact ArgOk.aggn rfl (by repeat first | exact .nil | refine .cons (.refl _) ?_ | refine .cons (.nil _) ?_)) (.cons (by first | exact ArgOk.d | exact ArgOk.bor rfl | exact ArgOk.agg rfl | exact ArgOk.agg (toDs_map _) | exact ArgOk.nil_bor | exact ArgOk.nil_lst | exact ArgOk.fn | exact ArgOk.ptr rfl rfl | exact ArgOk.aggn rfl (by repeat first | exact .nil | refine .cons (.refl _) ?_ | refine .cons (.nil _) ?_)) (.cons (by first | exact ArgOk.d | exact ArgOk.bor rfl | exact ArgOk.agg rfl | exact ArgOk.agg (toDs_map _) | exact ArgOk.nil_bor | exact ArgOk.nil_lst | exact ArgOk.fn | exact ArgOk.ptr rfl rfl | exact ArgOk.aggn rfl (by repeat first | exact .nil | refine .cons (.refl _) ?_ | refine .cons (.nil _) ?_)) .nil)))))))) ?_
  refine AXl.nm_i2 ?_
  refine AXl.qt rfl (by decide : (18:Nat) < 27) (q_call (c32 ⟨[54, 53, 48], true, false, [97, 120, 121, 122], [97], [97], 3⟩) (.cons (by first | exact ArgOk.d | exact ArgOk.bor rfl | exact ArgOk.agg rfl | exact ArgOk.agg (toDs_map _) | exact ArgOk.nil_bor | exact ArgOk.nil_lst | exact ArgOk.fn | exact ArgOk.ptr rfl rfl | exact ArgOk.aggn rfl (by repeat first | exact .nil | refine .cons (.refl _) ?_ | refine .cons (.nil _) ?_)) (.cons (by first | exact ArgOk.d | exact ArgOk.bor rfl | exact ArgOk.agg rfl | exact ArgOk.agg (toDs_map _) | exact ArgOk.nil_bor | exact ArgOk.nil_lst | exact ArgOk.fn | exact ArgOk.ptr rfl rfl | exact ArgOk.aggn rfl (by repeat first | exact .nil | refine .cons (.refl _) ?_ | refine .cons (.nil _) ?_)) (.cons (by first | exact ArgOk.d | exact ArgOk.bor rfl | exact ArgOk.agg rfl | exact ArgOk.agg (toDs_map _) | exact ArgOk.nil_bor | exact ArgOk.nil_lst | exact ArgOk.fn | exact ArgOk.ptr rfl rfl | exact ArgOk.aggn rfl (by repeat first | exact .nil | refine .cons (.refl _) ?_ | refine .cons (.nil _) ?_)) (.cons (by first | exact ArgOk.d | exact ArgOk.bor rfl | exact ArgOk.agg rfl | exact ArgOk.agg (toDs_map _) | exact ArgOk.nil_bor | exact ArgOk.nil_lst | exact ArgOk.fn | exact ArgOk.ptr rfl rfl | exact ArgOk.aggn rfl (by repeat first | exact .nil | refine .cons (.refl _) ?_ | refine .cons (.nil _) ?_)) (.cons (by first | exact ArgOk.d | exact ArgOk.bor rfl | exact ArgOk.agg rfl | exact ArgOk.agg (toDs_map _) | exact ArgOk.nil_bor | exact ArgOk.nil_lst | exact ArgOk.fn | exact ArgOk.ptr rfl rfl | exact ArgOk.aggn rfl (by repeat first | exact .nil | refine .cons (.refl _) ?_ | refine .cons (.nil _) ?_)) (.cons (by first | exact ArgOk.d | exact ArgOk.bor rfl | exact ArgOk.agg rfl | exact ArgOk.agg (toDs_map _) | exact ArgOk.nil_bor | exact ArgOk.nil_lst | exact ArgOk.fn | exact ArgOk.ptr rfl rfl | exact ArgOk.aggn rfl (by repeat first | exact .nil | refine .cons (.refl _) ?_ | refine .cons (.nil _) ?_)) (.cons (by first | exact ArgOk.d | exact ArgOk.bor rfl | exact ArgOk.agg rfl | exact ArgOk.agg (toDs_map _) | exact ArgOk.nil_bor | exact ArgOk.nil_lst | exact ArgOk.fn | exact ArgOk.ptr rfl rfl | exact ArgOk.aggn rfl (by repeat first | exact .nil | refine .cons (.refl _) ?_ | refine .cons (.nil _) ?_)) .nil)))))))) ?_
  refine AXl.nm_i2 ?_
  refine AXl.qt rfl (by decide : (19:Nat) < 27) (q_call (c32 ⟨[54, 53, 49], true, false, [97, 120, 121, 122], [97], [97], 3⟩) (.cons (by first | exact ArgOk.d | exact ArgOk.bor rfl | exact ArgOk.agg rfl | exact ArgOk.agg (toDs_map _) | exact ArgOk.nil_bor | exact ArgOk.nil_lst | exact ArgOk.fn | exact ArgOk.ptr rfl rfl | exact ArgOk.aggn rfl (by repeat first | exact .nil | refine .cons (.refl _) ?_ | refine .cons (.nil _) ?_)) (.cons (by first | exact ArgOk.d | exact ArgOk.bor rfl | exact ArgOk.agg rfl | exact ArgOk.agg (toDs_map _) | exact ArgOk.nil_bor | exact ArgOk.nil_lst | exact ArgOk.fn | exact ArgOk.ptr rfl rfl | exact ArgOk.aggn rfl (by repeat first | exact .nil | refine .cons (.refl _) ?_ | refine .cons (.nil _) ?_)) (.cons (by first | exact ArgOk.d | exact ArgOk.bor rfl | exact ArgOk.agg rfl | exact ArgOk.agg (toDs_map _) | exact ArgOk.nil_bor | exact ArgOk.nil_lst | exact ArgOk.fn | exact ArgOk.ptr rfl rfl | exact ArgOk.aggn rfl (by repeat first | exact .nil | refine .cons (.refl _) ?_ | refine .cons (.nil _) ?_)) (.cons (by first | exact ArgOk.d | exact ArgOk.bor rfl | exact ArgOk.agg rfl | exact ArgOk.agg (toDs_map _) | exact ArgOk.nil_bor | exact ArgOk.nil_lst | exact ArgOk.fn | exact ArgOk.ptr rfl rfl | exact ArgOk.aggn rfl (by repeat first | exact .nil | refine .cons (.refl _) ?_ | refine .cons (.nil _) ?_)) (.cons (by first | exact ArgOk.d | exact ArgOk.bor rfl | exact ArgOk.agg rfl | exact ArgOk.agg (toDs_map _) | exact ArgOk.nil_bor | exact ArgOk.nil_lst | exact ArgOk.fn | exact ArgOk.ptr rfl rfl | exact ArgOk.aggn rfl (by repeat first | exact .nil | refine .cons (.refl _) ?_ | refine .cons (.nil _) ?_)) (.cons (by first | exact ArgOk.d | exact ArgOk.bor rfl | exact ArgOk.agg rfl | exact ArgOk.agg (toDs_map _) | exact ArgOk.nil_bor | exact ArgOk.nil_lst | exact ArgOk.fn | exact ArgOk.ptr rfl rfl | exact ArgOk.aggn rfl (by repeat first | exact .nil | refine .cons (.refl _) ?_ | refine .cons (.nil _) ?_)) (.cons (by first | exact ArgOk.d | exact ArgOk.bor rfl | exact ArgOk.agg rfl | exact ArgOk.agg (toDs_map _) | exact ArgOk.nil_bor | exact ArgOk.nil_lst | exact ArgOk.fn | exact ArgOk.ptr rfl rfl | exact ArgOk.aggn rfl (by repeat first | exact .nil | refine .cons (.refl _) ?_ | refine .cons (.nil _) ?_)) .nil)))))))) ?_
  refine AXl.nm_i2 ?_
  refine AXl.qt rfl (by decide : (20:Nat) < 27) (q_call (c32 ⟨[55, 48, 48], true, false, [52, 97, 100], [97], [97], 1⟩) (.cons (by first | exact ArgOk.d | exact ArgOk.bor rfl | exact ArgOk.agg rfl | exact ArgOk.agg (toDs_map _) | exact ArgOk.nil_bor | exact ArgOk.nil_lst | exact ArgOk.fn | exact ArgOk.ptr rfl rfl | exact ArgOk.aggn rfl (by repeat first | exact .nil | refine .cons (.refl _) ?_ | refine .cons (.nil _) ?_)) (.cons (by first | exact ArgOk.d | exact ArgOk.bor rfl | exact ArgOk.agg rfl | exact ArgOk.agg (toDs_map _) | exact ArgOk.nil_bor | exact ArgOk.nil_lst | exact ArgOk.fn | exact ArgOk.ptr rfl rfl | exact ArgOk.aggn rfl (by repeat first | exact .nil | refine .cons (.refl _) ?_ | refine .cons (.nil _) ?_)) (.cons (by first | exact ArgOk.d | exact ArgOk.bor rfl | exact ArgOk.agg rfl | exact ArgOk.agg (toDs_map _) | exact ArgOk.nil_bor | exact ArgOk.nil_lst | exact ArgOk.fn | exact ArgOk.ptr rfl rfl | exact ArgOk.aggn rfl (by repeat first | exact .nil | refine .cons (.refl _) ?_ | refine .cons (.nil _) ?_)) (.cons (by first | exact ArgOk.d | exact ArgOk.bor rfl | exact ArgOk.agg rfl | exact ArgOk.agg (toDs_map _) | exact ArgOk.nil_bor | exact ArgOk.nil_lst | exact ArgOk.fn | exact ArgOk.ptr rfl rfl | exact ArgOk.aggn rfl (by repeat first | exact .nil | refine .cons (.refl _) ?_ | refine .cons (.nil _) ?_)) (.cons (by first | exact ArgOk.d | exact ArgOk.bor rfl | exact ArgOk.agg rfl | exact ArgOk.agg (toDs_map _) | exact ArgOk.nil_bor | exact ArgOk.nil_lst | exact ArgOk.fn | exact ArgOk.ptr rfl rfl | exact ArgOk.aggn rfl (by repeat first | exact .nil | refine .cons (.refl _) ?_ | refine .cons (.nil _) ?_)) (.cons (by first | exact ArgOk.d | exact ArgOk.bor rfl | exact ArgOk.agg rfl | exact ArgOk.agg (toDs_map _) | exact ArgOk.nil_bor | exact ArgOk.nil_lst | exact ArgOk.fn | exact ArgOk.ptr rfl rfl | exact ArgOk.aggn rfl (by repeat first | exact .nil | refine .cons (.refl _) ?_ | refine .cons (.nil _) ?_)) (.cons (by first | exact ArgOk.d | exact ArgOk.bor rfl | exact ArgOk.agg rfl | exact ArgOk.agg (toDs_map _) | exact ArgOk.nil_bor | exact ArgOk.nil_lst | exact ArgOk.fn | exact ArgOk.ptr rfl rfl | exact ArgOk.aggn rfl (by repeat first | exact .nil | refine .cons (.refl _) ?_ | refine .cons (.nil _) ?_)) .nil)))))))) ?_
  refine AXl.nm_i2 ?_
  refine AXl.qt rfl (by decide : (21:Nat) < 27) (q_call (c32 ⟨[55, 49, 48], true, false, [97, 98], [97], [97], 2⟩) (.cons (by first | exact ArgOk.d | exact ArgOk.bor rfl | exact ArgOk.agg rfl | exact ArgOk.agg (toDs_map _) | exact ArgOk.nil_bor | exact ArgOk.nil_lst | exact ArgOk.fn | exact ArgOk.ptr rfl rfl | exact ArgOk.aggn rfl (by repeat first | exact .nil | refine .cons (.refl _) ?_ | refine .cons (.nil _) ?_)) (.cons (by first | exact ArgOk.d | exact ArgOk.bor rfl | exact ArgOk.agg rfl | exact ArgOk.agg (toDs_map _) | exact ArgOk.nil_bor | exact ArgOk.nil_lst | exact ArgOk.fn | exact ArgOk.ptr rfl rfl | exact ArgOk.aggn rfl (by repeat first | exact .nil | refine .cons (.refl _) ?_ | refine .cons (.nil _) ?_)) (.cons (by first | exact ArgOk.d | exact ArgOk.bor rfl | exact ArgOk.agg rfl | exact ArgOk.agg (toDs_map _) | exact ArgOk.nil_bor | exact ArgOk.nil_lst | exact ArgOk.fn | exact ArgOk.ptr rfl rfl | exact ArgOk.aggn rfl (by repeat first | exact .nil | refine .cons (.refl _) ?_ | refine .cons (.nil _) ?_)) (.cons (by first | exact ArgOk.d | exact ArgOk.bor rfl | exact ArgOk.agg rfl | exact ArgOk.agg (toDs_map _) | exact ArgOk.nil_bor | exact ArgOk.nil_lst | exact ArgOk.fn | exact ArgOk.ptr rfl rfl | exact ArgOk.aggn rfl (by repeat first | exact .nil | refine .cons (.refl _) ?_ | refine .cons (.nil _) ?_)) (.cons (by first | exact ArgOk.d | exact ArgOk.bor rfl | exact ArgOk.agg rfl | exact ArgOk.agg (toDs_map _) | exact ArgOk.nil_bor | exact ArgOk.nil_lst | exact ArgOk.fn | exact ArgOk.ptr rfl rfl | exact ArgOk.aggn rfl (by repeat first | exact .nil | refine .cons (.refl _) ?_ | refine .cons (.nil _) ?_)) (.cons (by first | exact ArgOk.d | exact ArgOk.bor rfl | exact ArgOk.agg rfl | exact ArgOk.agg (toDs_map _) | exact ArgOk.nil_bor | exact ArgOk.nil_lst | exact ArgOk.fn | exact ArgOk.ptr rfl rfl | exact ArgOk.aggn rfl (by repeat first | exact .nil | refine .cons (.refl _) ?_ | refine .cons (.nil _) ?_)) (.cons (by first | exact ArgOk.d | exact ArgOk.bor rfl | exact ArgOk.agg rfl | exact ArgOk.agg (toDs_map _) | exact ArgOk.nil_bor | exact ArgOk.nil_lst | exact ArgOk.fn | exact ArgOk.ptr rfl rfl | exact ArgOk.aggn rfl (by repeat first | exact .nil | refine .cons (.refl _) ?_ | refine .cons (.nil _) ?_)) .nil)))))))) ?_
  refine AXl.nm_i2 ?_
  refine AXl.qt rfl (by decide : (22:Nat) < 27) (q_call (c32 ⟨[55, 55, 54], true, false, [116, 119], [], [], 0⟩) (.cons (by first | exact ArgOk.d | exact ArgOk.bor rfl | exact ArgOk.agg rfl | exact ArgOk.agg (toDs_map _) | exact ArgOk.nil_bor | exact ArgOk.nil_lst | exact ArgOk.fn | exact ArgOk.ptr rfl rfl | exact ArgOk.aggn rfl (by repeat first | exact .nil | refine .cons (.refl _) ?_ | refine .cons (.nil _) ?_)) (.cons (by first | exact ArgOk.d | exact ArgOk.bor rfl | exact ArgOk.agg rfl | exact ArgOk.agg (toDs_map _) | exact ArgOk.nil_bor | exact ArgOk.nil_lst | exact ArgOk.fn | exact ArgOk.ptr rfl rfl | exact ArgOk.aggn rfl (by repeat first | exact .nil | refine .cons (.refl _) ?_ | refine .cons (.nil _) ?_)) (.cons (by first | exact ArgOk.d | exact ArgOk.bor rfl | exact ArgOk.agg rfl | exact ArgOk.agg (toDs_map _) | exact ArgOk.nil_bor | exact ArgOk.nil_lst | exact ArgOk.fn | exact ArgOk.ptr rfl rfl | exact ArgOk.aggn rfl (by repeat first | exact .nil | refine .cons (.refl _) ?_ | refine .cons (.nil _) ?_)) (.cons (by first | exact ArgOk.d | exact ArgOk.bor rfl | exact ArgOk.agg rfl | exact ArgOk.agg (toDs_map _) | exact ArgOk.nil_bor | exact ArgOk.nil_lst | exact ArgOk.fn | exact ArgOk.ptr rfl rfl | exact ArgOk.aggn rfl (by repeat first | exact .nil | refine .cons (.refl _) ?_ | refine .cons (.nil _) ?_)) (.cons (by first | exact ArgOk.d | exact ArgOk.bor rfl | exact ArgOk.agg rfl | exact ArgOk.agg (toDs_map _) | exact ArgOk.nil_bor | exact ArgOk.nil_lst | exact ArgOk.fn | exact ArgOk.ptr rfl rfl | exact ArgOk.aggn rfl (by repeat first | exact .nil | refine .cons (.refl _) ?_ | refine .cons (.nil _) ?_)) (.cons (by first | exact ArgOk.d | exact ArgOk.bor rfl | exact ArgOk.agg rfl | exact ArgOk.agg (toDs_map _) | exact ArgOk.nil_bor | exact ArgOk.nil_lst | exact ArgOk.fn | exact ArgOk.ptr rfl rfl | exact ArgOk.aggn rfl (by repeat first | exact .nil | refine .cons (.refl _) ?_ | refine .cons (.nil _) ?_)) (.cons (by first | exact ArgOk.d | exact ArgOk.bor rfl | exact ArgOk.agg rfl | exact ArgOk.agg (toDs_map _) | exact ArgOk.nil_bor | exact ArgOk.nil_lst | exact ArgOk.fn | exact ArgOk.ptr rfl rfl | exact ArgOk.aggn rfl (by repeat first | exact .nil | refine .cons (.refl _) ?_ | refine .cons (.nil _) ?_)) .nil)))))))) ?_
  refine AXl.nm_i2 ?_
  refine AXl.qt rfl (by decide : (23:Nat) < 27) (q_call (c32 ⟨[55, 56, 55], true, false, [116, 119], [], [], 0⟩) (.cons (by first | exact ArgOk.d | exact ArgOk.bor rfl | exact ArgOk.agg rfl | exact ArgOk.agg (toDs_map _) | exact ArgOk.nil_bor | exact ArgOk.nil_lst | exact ArgOk.fn | exact ArgOk.ptr rfl rfl | exact ArgOk.aggn rfl (by repeat first | exact .nil | refine .cons (.refl _) ?_ | refine .cons (.nil _) ?_)) (.cons (by first | exact ArgOk.d | exact ArgOk.bor rfl | exact ArgOk.agg rfl | exact ArgOk.agg (toDs_map _) | exact ArgOk.nil_bor | exact ArgOk.nil_lst | exact ArgOk.fn | exact ArgOk.ptr rfl rfl | exact ArgOk.aggn rfl (by repeat first | exact .nil | refine .cons (.refl _) ?_ | refine .cons (.nil _) ?_)) (.cons (by first | exact ArgOk.d | exact ArgOk.bor rfl | exact ArgOk.agg rfl | exact ArgOk.agg (toDs_map _) | exact ArgOk.nil_bor | exact ArgOk.nil_lst | exact ArgOk.fn | exact ArgOk.ptr rfl rfl | exact ArgOk.aggn rfl (by repeat first | exact .nil | refine .cons (.refl _) ?_ | refine .cons (.nil _) ?_)) (.cons (by first | exact ArgOk.d | exact ArgOk.bor rfl | exact ArgOk.agg rfl | exact ArgOk.agg (toDs_map _) | exact ArgOk.nil_bor | exact ArgOk.nil_lst | exact ArgOk.fn | exact ArgOk.ptr rfl rfl | exact ArgOk.aggn rfl (by repeat first | exact .nil | refine .cons (.refl _) ?_ | refine .cons (.nil _) ?_)) (.cons (by first | exact ArgOk.d | exact ArgOk.bor rfl | exact ArgOk.agg rfl | exact ArgOk.agg (toDs_map _) | exact ArgOk.nil_bor | exact ArgOk.nil_lst | exact ArgOk.fn | exact ArgOk.ptr rfl rfl | exact ArgOk.aggn rfl (by repeat first | exact .nil | refine .cons (.refl _) ?_ | refine .cons (.nil _) ?_)) (.cons (by first | exact ArgOk.d | exact ArgOk.bor rfl | exact ArgOk.agg rfl | exact ArgOk.agg (toDs_map _) | exact ArgOk.nil_bor | exact ArgOk.nil_lst | exact ArgOk.fn | exact ArgOk.ptr rfl rfl | exact ArgOk.aggn rfl (by repeat first | exact .nil | refine .cons (.refl _) ?_ | refine .cons (.nil _) ?_)) (.cons (by first | exact ArgOk.d | exact ArgOk.bor rfl | exact ArgOk.agg rfl | exact ArgOk.agg (toDs_map _) | exact ArgOk.nil_bor | exact ArgOk.nil_lst | exact ArgOk.fn | exact ArgOk.ptr rfl rfl | exact ArgOk.aggn rfl (by repeat first | exact .nil | refine .cons (.refl _) ?_ | refine .cons (.nil _) ?_)) .nil)))))))) ?_
  refine AXl.nm_i2 ?_
  refine AXl.qt rfl (by decide : (24:Nat) < 27) (q_call (c32 ⟨[56, 51, 48], true, false, [97, 118], [97], [97], 4⟩) (.cons (by first | exact ArgOk.d | exact ArgOk.bor rfl | exact ArgOk.agg rfl | exact ArgOk.agg (toDs_map _) | exact ArgOk.nil_bor | exact ArgOk.nil_lst | exact ArgOk.fn | exact ArgOk.ptr rfl rfl | exact ArgOk.aggn rfl (by repeat first | exact .nil | refine .cons (.refl _) ?_ | refine .cons (.nil _) ?_)) (.cons (by first | exact ArgOk.d | exact ArgOk.bor rfl | exact ArgOk.agg rfl | exact ArgOk.agg (toDs_map _) | exact ArgOk.nil_bor | exact ArgOk.nil_lst | exact ArgOk.fn | exact ArgOk.ptr rfl rfl | exact ArgOk.aggn rfl (by repeat first | exact .nil | refine .cons (.refl _) ?_ | refine .cons (.nil _) ?_)) (.cons (by first | exact ArgOk.d | exact ArgOk.bor rfl | exact ArgOk.agg rfl | exact ArgOk.agg (toDs_map _) | exact ArgOk.nil_bor | exact ArgOk.nil_lst | exact ArgOk.fn | exact ArgOk.ptr rfl rfl | exact ArgOk.aggn rfl (by repeat first | exact .nil | refine .cons (.refl _) ?_ | refine .cons (.nil _) ?_)) (.cons (by first | exact ArgOk.d | exact ArgOk.bor rfl | exact ArgOk.agg rfl | exact ArgOk.agg (toDs_map _) | exact ArgOk.nil_bor | exact ArgOk.nil_lst | exact ArgOk.fn | exact ArgOk.ptr rfl rfl | exact ArgOk.aggn rfl (by repeat first | exact .nil | refine .cons (.refl _) ?_ | refine .cons (.nil _) ?_)) (.cons (by first | exact ArgOk.d | exact ArgOk.bor rfl | exact ArgOk.agg rfl | exact ArgOk.agg (toDs_map _) | exact ArgOk.nil_bor | exact ArgOk.nil_lst | exact ArgOk.fn | exact ArgOk.ptr rfl rfl | exact ArgOk.aggn rfl (by repeat first | exact .nil | refine .cons (.refl _) ?_ | refine .cons (.nil _) ?_)) (.cons (by first | exact ArgOk.d | exact ArgOk.bor rfl | exact ArgOk.agg rfl | exact ArgOk.agg (toDs_map _) | exact ArgOk.nil_bor | exact ArgOk.nil_lst | exact ArgOk.fn | exact ArgOk.ptr rfl rfl | exact ArgOk.aggn rfl (by repeat first | exact .nil | refine .cons (.refl _) ?_ | refine .cons (.nil _) ?_)) (.cons (by first | exact ArgOk.d | exact ArgOk.bor rfl | exact ArgOk.agg rfl | exact ArgOk.agg (toDs_map _) | exact ArgOk.nil_bor | exact ArgOk.nil_lst | exact ArgOk.fn | exact ArgOk.ptr rfl rfl | exact ArgOk.aggn rfl (by repeat first | exact .nil | refine .cons (.refl _) ?_ | refine .cons (.nil _) ?_)) .nil)))))))) ?_
  refine AXl.nm_i2 ?_
  refine AXl.qt rfl (by decide : (25:Nat) < 27) (q_call (c32 ⟨[56, 53, 54], true, false, [117, 122], [], [], 0⟩) (.cons (by first | exact ArgOk.d | exact ArgOk.bor rfl | exact ArgOk.agg rfl | exact ArgOk.agg (toDs_map _) | exact ArgOk.nil_bor | exact ArgOk.nil_lst | exact ArgOk.fn | exact ArgOk.ptr rfl rfl | exact ArgOk.aggn rfl (by repeat first | exact .nil | refine .cons (.refl _) ?_ | refine .cons (.nil _) ?_)) (.cons (by first | exact ArgOk.d | exact ArgOk.bor rfl | exact ArgOk.agg rfl | exact ArgOk.agg (toDs_map _) | exact ArgOk.nil_bor | exact ArgOk.nil_lst | exact ArgOk.fn | exact ArgOk.ptr rfl rfl | exact ArgOk.aggn rfl (by repeat first | exact .nil | refine .cons (.refl _) ?_ | refine .cons (.nil _) ?_)) (.cons (by first | exact ArgOk.d | exact ArgOk.bor rfl | exact ArgOk.agg rfl | exact ArgOk.agg (toDs_map _) | exact ArgOk.nil_bor | exact ArgOk.nil_lst | exact ArgOk.fn | exact ArgOk.ptr rfl rfl | exact ArgOk.aggn rfl (by repeat first | exact .nil | refine .cons (.refl _) ?_ | refine .cons (.nil _) ?_)) (.cons (by first | exact ArgOk.d | exact ArgOk.bor rfl | exact ArgOk.agg rfl | exact ArgOk.agg (toDs_map _) | exact ArgOk.nil_bor | exact ArgOk.nil_lst | exact ArgOk.fn | exact ArgOk.ptr rfl rfl | exact ArgOk.aggn rfl (by repeat first | exact .nil | refine .cons (.refl _) ?_ | refine .cons (.nil _) ?_)) (.cons (by first | exact ArgOk.d | exact ArgOk.bor rfl | exact ArgOk.agg rfl | exact ArgOk.agg (toDs_map _) | exact ArgOk.nil_bor | exact ArgOk.nil_lst | exact ArgOk.fn | exact ArgOk.ptr rfl rfl | exact ArgOk.aggn rfl (by repeat first | exact .nil | refine .cons (.refl _) ?_ | refine .cons (.nil _) ?_)) (.cons (by first | exact ArgOk.d | exact ArgOk.bor rfl | exact ArgOk.agg rfl | exact ArgOk.agg (toDs_map _) | exact ArgOk.nil_bor | exact ArgOk.nil_lst | exact ArgOk.fn | exact ArgOk.ptr rfl rfl | exact ArgOk.aggn rfl (by repeat first | exact .nil | refine .cons (.refl _) ?_ | refine .cons (.nil _) ?_)) (.cons (by first | exact ArgOk.d | exact ArgOk.bor rfl | exact ArgOk.agg rfl | exact ArgOk.agg (toDs_map _) | exact ArgOk.nil_bor | exact ArgOk.nil_lst | exact ArgOk.fn | exact ArgOk.ptr rfl rfl | exact ArgOk.aggn rfl (by repeat first | exact .nil | refine .cons (.refl _) ?_ | refine .cons (.nil _) ?_)) .nil)))))))) ?_
  refine AXl.qt rfl (by decide : (26:Nat) < 27) (q_buildSlice _ _ _ apT_22_i rfl rfl (by decide)) ?_
  refine AXl.qt rfl (by decide : (0:Nat) < 27) (Still.qt (s_assign _)) ?_
  refine AXl.nm_i2 ?_
  refine AXl.nil ?_
  refine hK4 _ ?_
  clear hK4 K4
  refine Ethen.n ?_
  refine hK3 _ ?_
  clear hK3 K3
  refine AXc.ret ?_
  refine Fin.ret rfl rfl ?_
  rfl
set_option maxHeartbeats 800000 in
/-- The contract of library librarylaw09.one. -/
theorem c20 {Γ : List (Nat × List D)} (t codes : Str) (hc : codes.length ≤ 1000) : AFn Tryd.prog Γ 20 [.c (.d (.str t)), .c (.d (.str codes))] [.agg (oneR t codes).ds] := by
  refine AFn.of_body0 (n := 27) (res := [.cell 4 27]) Tryd.func20 (by kernel_rfl) rfl Tryd.ntmps20 (by rw [Tryd.results20]) (by simp) ?_
  simp only [envOf, Nat.reduceAdd]
  refine AXc.seq fun K1 hK1 => ?_
  refine AXc.region' fun K2 hK2 => ?_
  refine AXl.alloc zC_27_i (by decide : (4:Nat) < 27) ?_
  refine AXl.nm_i0 ?_
  refine AXl.nil ?_
  refine hK2 _ ?_
  clear hK2 K2
  refine Ethen.n ?_
  refine hK1 _ ?_
  clear hK1 K1
  refine AXc.seq fun K3 hK3 => ?_
  refine AXc.region' fun K4 hK4 => ?_
  refine AXl.qt rfl (by decide : (7:Nat) < 27) (Still.qt (s_move _)) ?_
  refine AXl.nm_i0 ?_
  refine AXl.qt rfl (by decide : (8:Nat) < 27) (Still.qt (s_build _ _ plT_45_i zC_45_i rfl)) ?_
  refine AXl.alloc zC_45_i (by decide : (5:Nat) < 27) ?_
  refine AXl.nm_i0 ?_
  first
    | refine AXl.store rfl rfl rfl sz_45_i (by simp [Problem.ds, TagRule.ds, Fld.ds, Sub.ds, Rec.ds]) rfl ?_
    | refine AXl.store_row rfl rfl (by first | rfl | exact List.getElem?_eq_getElem (by omega)) rfl sz_45_i (by simp [Problem.ds, TagRule.ds, Fld.ds, Sub.ds, Rec.ds]) rfl ?_
  refine AXl.nm_i0 ?_
  refine AXl.nil ?_
  refine hK4 _ ?_
  clear hK4 K4
  refine Ethen.n ?_
  refine hK3 _ ?_
  clear hK3 K3
  refine AXc.seq fun K5 hK5 => ?_
  refine AXc.seq fun K6 hK6 => ?_
  refine AXc.region' fun K7 hK7 => ?_
  refine AXl.qt rfl (by decide : (6:Nat) < 27) (Still.qt (s_assign _)) ?_
  refine AXl.nm_i0 ?_
  refine AXl.nil ?_
  refine hK7 _ ?_
  clear hK7 K7
  refine Ethen.n ?_
  refine hK6 _ ?_
  clear hK6 K6
  refine AXc.block ?_
  refine AXc.nilbox 1 2 55 2 rfl rfl ?_
  simp only [St.put, putE, U, del, lk, ev, cAV, lkG, rsAV, rvAV, ↓reduceIte, Nat.reduceEqDiff, Nat.reduceAdd, Nat.reduceMul, List.length_map, List.length_cons, List.length_nil, List.getElem_map, Int.toNat_natCast, List.cons_append, List.nil_append, List.set_cons_zero, List.set_cons_succ, splice, List.take_succ_cons, List.take_zero, List.drop_succ_cons, List.drop_zero, Nat.zero_add, Nat.add_zero, List.map_cons, List.map_nil, List.take_nil, List.drop_nil, List.append_nil]
  refine AXc.loop (S := Nat) (fun k => ⟨[(0, .c (.d (.str t))), (1, .c (.d (.str codes))), (4, .c (.loc 0 0)), (5, .c (.loc 1 0)), (6, .c (.d (.int .i64 k)))], [.box 27 [.d (dI 0), .d (dI 0), .d (dI 0), .d (.str []), .d (.raw (.slice none 0 0))], .box 45 [.d (.str t), .d (.str [32, 32]), .own 2 k, .d (dI 0)], .row 55 2 ((codes.take k).map fun c => [dB c, .str [120]]) k]⟩) (fun k => k ≤ codes.length) (fun k => codes.length - k) 0 (by omega) (by refine ⟨?_, ?_, ?_, ?_, ?_, ?_⟩ <;> (simp [subE, lk, AV.low, C.low, LB.low, Problem.ds, TagRule.ds, Fld.ds, Sub.ds, Rec.ds] <;> fail)) ?_
  intro k hk0
  try simp only [Problem.ds, TagRule.ds, Fld.ds, Sub.ds, Rec.ds, List.map_cons, List.map_nil]
  refine AXc.seq fun K8 hK8 => ?_
  refine AXc.seq fun K9 hK9 => ?_
  refine AXc.region' fun K10 hK10 => ?_
  refine AXl.qt rfl (by decide : (9:Nat) < 27) (Still.qt (s_move _)) ?_
  refine AXl.qt rfl (by decide : (10:Nat) < 27) (Still.qt (s_move _)) ?_
  refine AXl.qt rfl (by decide : (11:Nat) < 27) (Still.qt (s_len_str _ _ Tryd.underlying9 rfl)) ?_
  refine AXl.qt rfl (by decide : (12:Nat) < 27) (Still.qt (s_icmp _ _ _ _ _ rfl rfl rfl)) ?_
  refine AXl.nm_i0 ?_
  refine AXl.nil ?_
  refine hK10 _ ?_
  clear hK10 K10
  refine Ethen.n ?_
  refine hK9 _ ?_
  clear hK9 K9
  refine AXc.cond rfl (fun hc11 => ?_) (fun hc11 => ?_)
  · try simp only [decide_eq_true_eq, decide_eq_false_iff_not, Bool.not_eq_true', Bool.not_eq_false', Int.not_lt, Int.not_le, ne_eq, Decidable.not_not, bne_iff_ne, beq_iff_eq, Bool.and_eq_true, Bool.or_eq_true, Bool.and_eq_false_iff, Bool.or_eq_false_iff, Bool.not_not, Ax.u8eq] at hc11
    have hk : k < codes.length := by omega
    have e1 : (codes.take (k + 1)).map (fun c => [dB c, D.str [120]]) = (codes.take k).map (fun c => [dB c, D.str [120]]) ++ [[dB codes[k], D.str [120]]] := by rw [take_next hk, List.map_append]; rfl
    refine AXc.skip ?_
    refine Ethen.n ?_
    refine hK8 _ ?_
    clear hK8 K8
    refine AXc.seq fun K12 hK12 => ?_
    refine AXc.block ?_
    refine AXc.draw' mixed_i 7 (by kernel_rfl) fun K13 hK13 => ?_
    simp only [List.take_succ_cons, List.take_zero, List.take_nil, List.drop_succ_cons, List.drop_zero, List.drop_nil]
    first
      | refine AXd.op rfl (Still.qt (s_field_loc _ _ _ fdT_45_2_i rfl)) ?_
      | refine AXd.op rfl (Still.qt (s_field_ptr _ _ _ fdT_45_2_i rfl)) ?_
      | refine AXd.op rfl (Still.qt (s_field_row _ _ _ fdT_45_2_i rfl rfl)) ?_
    first
      | refine AXd.op rfl (Still.qt (s_load1 _ _ ldT_43_i rfl)) ?_
      | refine AXd.op rfl (Still.qt (s_load1_row _ _ ldT_43_i rfl rfl (by first | rfl | exact List.getElem?_eq_getElem (by omega)) rfl)) ?_
    refine AXd.op rfl (Still.qt (s_move _)) ?_
    refine AXd.op rfl (Still.qt (s_move _)) ?_
    refine AXd.nm_i0 ?_
    refine AXd.op rfl (Still.qt (s_index_str _ _ _ Tryd.underlying9 rfl rfl (by first | omega | (simp only [List.length_map, List.length_cons, List.length_nil, List.length_append, List.length_take, List.length_drop]; omega)) (List.getElem?_eq_getElem (by first | omega | (simp only [List.length_map, List.length_cons, List.length_nil, List.length_append, List.length_take, List.length_drop]; omega))))) ?_
    refine AXd.nm_i0 ?_
    refine AXd.op rfl (Still.qt (s_build _ _ plT_55_i zC_55_i rfl)) ?_
    refine AXd.op rfl (q_buildSlice _ _ _ apT_43_i rfl rfl (by decide)) ?_
    refine AXd.nm_i0 ?_
    refine AXd.nil ?_
    first
      | refine AXl.append apT_43_i rfl rfl rfl (by simp only [List.length_map, List.length_take, List.length_cons, List.length_nil]; omega) (by simp only [List.length_map, List.length_take, List.length_cons, List.length_nil]; omega) (by decide : (22:Nat) < 27) ?_
      | refine AXl.append_nil apT_43_i rfl (by decide) rfl (by simp only [List.length_map, List.length_take, List.length_cons, List.length_nil]; omega) (by simp only [List.length_map, List.length_take, List.length_cons, List.length_nil]; omega) (by decide : (22:Nat) < 27) ?_
    first
      | refine AXl.qt rfl (by decide : (23:Nat) < 27) (Still.qt (s_field_loc _ _ _ fdT_45_2_i rfl)) ?_
      | refine AXl.qt rfl (by decide : (23:Nat) < 27) (Still.qt (s_field_ptr _ _ _ fdT_45_2_i rfl)) ?_
      | refine AXl.qt rfl (by decide : (23:Nat) < 27) (Still.qt (s_field_row _ _ _ fdT_45_2_i rfl rfl)) ?_
    refine AXl.nm_i0 ?_
    first
      | refine AXl.store rfl rfl rfl sz_43_i (by simp [Problem.ds, TagRule.ds, Fld.ds, Sub.ds, Rec.ds]) rfl ?_
      | refine AXl.store_row rfl rfl (by first | rfl | exact List.getElem?_eq_getElem (by omega)) rfl sz_43_i (by simp [Problem.ds, TagRule.ds, Fld.ds, Sub.ds, Rec.ds]) rfl ?_
    refine AXl.nm_i0 ?_
    refine AXl.nil ?_
    refine hK13 _ ?_
    clear hK13 K13
    refine EinBlock.n ?_
    refine Ethen.n ?_
    refine hK12 _ ?_
    clear hK12 K12
    refine AXc.region' fun K14 hK14 => ?_
    refine AXl.qt rfl (by decide : (13:Nat) < 27) (Still.qt (s_move _)) ?_
    refine AXl.qt rfl (by decide : (14:Nat) < 27) (Still.qt (s_iar _ _ _ _ _ rfl rfl rfl (IntWalk.i64_in _ ⟨(by first | omega | (simp only [List.length_map, List.length_cons, List.length_nil, List.length_append, List.length_take, List.length_drop]; omega)), (by first | omega | (simp only [List.length_map, List.length_cons, List.length_nil, List.length_append, List.length_take, List.length_drop]; omega))⟩))) ?_
    refine AXl.qt rfl (by decide : (6:Nat) < 27) (Still.qt (s_assign _)) ?_
    refine AXl.nm_i0 ?_
    refine AXl.nil ?_
    refine hK14 _ ?_
    clear hK14 K14
    refine Ethen.n ?_
    clear hK5 K5
    refine ⟨k + 1, by omega, by omega, (by refine ⟨?_, ?_, ?_, ?_, ?_, ?_⟩ <;> (simp [subE, lk, AV.low, C.low, LB.low, Problem.ds, TagRule.ds, Fld.ds, Sub.ds, Rec.ds, e1, -List.map_take] <;> fail))⟩
  · try simp only [decide_eq_true_eq, decide_eq_false_iff_not, Bool.not_eq_true', Bool.not_eq_false', Int.not_lt, Int.not_le, ne_eq, Decidable.not_not, bne_iff_ne, beq_iff_eq, Bool.and_eq_true, Bool.or_eq_true, Bool.and_eq_false_iff, Bool.or_eq_false_iff, Bool.not_not, Ax.u8eq] at hc11
    refine AXc.exit ?_
    refine Ethen.e ?_
    clear hK8 K8
    refine Ethen.e ?_
    refine EinBlock.hit ?_
    refine Ethen.n ?_
    refine hK5 _ ?_
    clear hK5 K5
    refine AXc.seq fun K15 hK15 => ?_
    refine AXc.freezeBox 1 2 rfl rfl rfl ?_
    simp only [St.put, putE, U, del, lk, ev, cAV, lkG, rsAV, rvAV, ↓reduceIte, Nat.reduceEqDiff, Nat.reduceAdd, Nat.reduceMul, List.length_map, List.length_cons, List.length_nil, List.getElem_map, Int.toNat_natCast, List.cons_append, List.nil_append, List.set_cons_zero, List.set_cons_succ, splice, List.take_succ_cons, List.take_zero, List.drop_succ_cons, List.drop_zero, Nat.zero_add, Nat.add_zero, List.map_cons, List.map_nil, List.take_nil, List.drop_nil, List.append_nil, Problem.ds, TagRule.ds, Fld.ds, Sub.ds, Rec.ds]
    refine AXc.region' fun K16 hK16 => ?_
    first
      | refine AXl.qt rfl (by decide : (24:Nat) < 27) (Still.qt (s_loadN _ _ ldT_45_i rfl (by simp [Problem.ds, TagRule.ds, Fld.ds, Sub.ds, Rec.ds]))) ?_
      | refine AXl.qt rfl (by decide : (24:Nat) < 27) (Still.qt (s_loadN_row _ _ ldT_45_i rfl rfl (by first | rfl | exact List.getElem?_eq_getElem (by omega)) (by simp [Problem.ds, TagRule.ds, Fld.ds, Sub.ds, Rec.ds]))) ?_
    refine AXl.qt rfl (by decide : (25:Nat) < 27) (q_buildSlice _ _ _ apT_25_i rfl rfl (by decide)) ?_
    refine AXl.nm_i0 ?_
    refine AXl.qt rfl (by decide : (26:Nat) < 27) (Still.qt (s_build _ _ plT_27_i zC_27_i rfl)) ?_
    refine AXl.nm_i0 ?_
    first
      | refine AXl.store rfl rfl rfl sz_27_i (by simp [Problem.ds, TagRule.ds, Fld.ds, Sub.ds, Rec.ds]) rfl ?_
      | refine AXl.store_row rfl rfl (by first | rfl | exact List.getElem?_eq_getElem (by omega)) rfl sz_27_i (by simp [Problem.ds, TagRule.ds, Fld.ds, Sub.ds, Rec.ds]) rfl ?_
    refine AXl.nm_i0 ?_
    refine AXl.nil ?_
    refine hK16 _ ?_
    clear hK16 K16
    refine Ethen.n ?_
    refine hK15 _ ?_
    clear hK15 K15
    refine AXc.ret ?_
    refine Fin.ret rfl rfl ?_
    have : k = codes.length := by omega
    subst this
    simp [Rec.ds, oneR, Fld.ds, Sub.ds, Function.comp_def]
set_option maxHeartbeats 1600000 in
/-- The contract of library librarylaw09.own. -/
theorem c19 {Γ : List (Nat × List D)} (l : List Problem) (i : Int) (hl : l.length ≤ 100000) : AFn Tryd.prog Γ 19 [.c (.d (.lst 4 (l.map Problem.ds))), .c (.d (.int .i64 i))] [.fresh 41 4 ((ownP l i).map Problem.ds)] := by
  refine AFn.of_body1 (n := 57) (r := .tmp 4) 0 Tryd.func19 (by kernel_rfl) rfl Tryd.ntmps19 (by rw [Tryd.results19]) (by simp) ?_
  simp only [envOf, Nat.reduceAdd]
  refine AXc.seq fun K1 hK1 => ?_
  refine AXc.region' fun K2 hK2 => ?_
  refine AXl.qt rfl (by decide : (4:Nat) < 57) (Still.qt (s_assign _)) ?_
  refine AXl.nm_i0 ?_
  refine AXl.nil ?_
  refine hK2 _ ?_
  clear hK2 K2
  refine Ethen.n ?_
  refine hK1 _ ?_
  clear hK1 K1
  refine AXc.seq fun K3 hK3 => ?_
  refine AXc.region' fun K4 hK4 => ?_
  refine AXl.buildSlice apT_35_i rfl rfl (by decide) (by decide : (7:Nat) < 57) ?_
  refine AXl.qt rfl (by decide : (5:Nat) < 57) (Still.qt (s_assign _)) ?_
  refine AXl.nm_i0 ?_
  refine AXl.nil ?_
  refine hK4 _ ?_
  clear hK4 K4
  refine Ethen.n ?_
  refine hK3 _ ?_
  clear hK3 K3
  refine AXc.seq fun K5 hK5 => ?_
  refine AXc.seq fun K6 hK6 => ?_
  refine AXc.region' fun K7 hK7 => ?_
  refine AXl.qt rfl (by decide : (6:Nat) < 57) (Still.qt (s_assign _)) ?_
  refine AXl.nm_i0 ?_
  refine AXl.nil ?_
  refine hK7 _ ?_
  clear hK7 K7
  refine Ethen.n ?_
  refine hK6 _ ?_
  clear hK6 K6
  refine AXc.block ?_
  refine AXc.loop (S := Nat × Nat) (fun ⟨k, ver⟩ => ⟨[(0, .c (.d (.lst 4 (l.map Problem.ds)))), (1, .c (.d (.int .i64 i))), (5, .c (.own 0 ver)), (6, .c (.d (.int .i64 k)))], [.row 41 4 ((ownP (l.take k) i).map Problem.ds) ver]⟩) (fun ⟨k, ver⟩ => k ≤ l.length) (fun ⟨k, ver⟩ => l.length - k) (0, 0) (by dsimp only; omega) (by refine ⟨?_, ?_, ?_, ?_, ?_, ?_⟩ <;> (simp [subE, lk, AV.low, C.low, LB.low, Problem.ds, TagRule.ds, Fld.ds, Sub.ds, Rec.ds, ownP] <;> fail)) ?_
  rintro ⟨k, ver⟩ hk0
  have hb := own_len (l.take k) i; rw [List.length_take] at hb
  try simp only [Problem.ds, TagRule.ds, Fld.ds, Sub.ds, Rec.ds, List.map_cons, List.map_nil]
  refine AXc.seq fun K8 hK8 => ?_
  refine AXc.seq fun K9 hK9 => ?_
  refine AXc.region' fun K10 hK10 => ?_
  refine AXl.qt rfl (by decide : (8:Nat) < 57) (Still.qt (s_move _)) ?_
  refine AXl.qt rfl (by decide : (9:Nat) < 57) (Still.qt (s_move _)) ?_
  first
    | refine AXl.qt rfl (by decide : (10:Nat) < 57) (Still.qt (s_len _ _ Tryd.underlying35 rfl)) ?_
    | refine AXl.qt rfl (by decide : (10:Nat) < 57) (Still.qt (s_len_nil _ _ Tryd.underlying35 rfl)) ?_
  refine AXl.qt rfl (by decide : (11:Nat) < 57) (Still.qt (s_icmp _ _ _ _ _ rfl rfl rfl)) ?_
  refine AXl.nm_i0 ?_
  refine AXl.nil ?_
  refine hK10 _ ?_
  clear hK10 K10
  refine Ethen.n ?_
  refine hK9 _ ?_
  clear hK9 K9
  refine AXc.cond rfl (fun hc11 => ?_) (fun hc11 => ?_)
  · try simp only [decide_eq_true_eq, decide_eq_false_iff_not, Bool.not_eq_true', Bool.not_eq_false', Int.not_lt, Int.not_le, ne_eq, Decidable.not_not, bne_iff_ne, beq_iff_eq, Bool.and_eq_true, Bool.or_eq_true, Bool.and_eq_false_iff, Bool.or_eq_false_iff, Bool.not_not, Ax.u8eq] at hc11
    have hk : k < l.length := by dsimp only at hk0; omega
    have e1 : ownP (l.take (k + 1)) i = ownP (l.take k) i ++ (if ownQ l[k] i then [⟨l[k].kind, 0, l[k].tag, l[k].code⟩] else []) := by rw [take_next hk, own_snoc]
    refine AXc.skip ?_
    refine Ethen.n ?_
    refine hK8 _ ?_
    clear hK8 K8
    refine AXc.seq fun K12 hK12 => ?_
    refine AXc.block ?_
    refine AXc.seq fun K13 hK13 => ?_
    refine AXc.region' fun K14 hK14 => ?_
    refine AXl.qt rfl (by decide : (14:Nat) < 57) (Still.qt (s_move _)) ?_
    refine AXl.qt rfl (by decide : (15:Nat) < 57) (Still.qt (s_move _)) ?_
    first
      | refine AXl.qt rfl (by decide : (16:Nat) < 57) (Still.qt (s_index _ _ _ slT_35_i (.inl rfl) rfl rfl (by first | omega | (simp only [List.length_map, List.length_cons, List.length_nil, List.length_append, List.length_take, List.length_drop]; omega)) (List.getElem?_eq_getElem (by first | omega | (simp only [List.length_map, List.length_cons, List.length_nil, List.length_append, List.length_take, List.length_drop]; omega))))) ?_
      | refine AXl.qt rfl (by decide : (16:Nat) < 57) (Still.qt (s_index _ _ _ slT_35_i (.inr rfl) rfl rfl (by first | omega | (simp only [List.length_map, List.length_cons, List.length_nil, List.length_append, List.length_take, List.length_drop]; omega)) (List.getElem?_eq_getElem (by first | omega | (simp only [List.length_map, List.length_cons, List.length_nil, List.length_append, List.length_take, List.length_drop]; omega))))) ?_
      | refine AXl.qt rfl (by decide : (16:Nat) < 57) (Still.qt (s_index_own _ _ _ slT_35_i rfl rfl rfl rfl (by first | omega | (simp only [List.length_map, List.length_cons, List.length_nil, List.length_append, List.length_take, List.length_drop]; omega)) (by first | omega | (simp only [List.length_map, List.length_cons, List.length_nil, List.length_append, List.length_take, List.length_drop]; omega)))) ?_
    refine AXl.nm_i0 ?_
    first
      | refine AXl.qt rfl (by decide : (17:Nat) < 57) (Still.qt (s_field_loc _ _ _ fdT_41_0_i rfl)) ?_
      | refine AXl.qt rfl (by decide : (17:Nat) < 57) (Still.qt (s_field_ptr _ _ _ fdT_41_0_i rfl)) ?_
      | refine AXl.qt rfl (by decide : (17:Nat) < 57) (Still.qt (s_field_row _ _ _ fdT_41_0_i rfl rfl)) ?_
    first
      | refine AXl.qt rfl (by decide : (18:Nat) < 57) (Still.qt (s_load1 _ _ ldT_3_i rfl)) ?_
      | refine AXl.qt rfl (by decide : (18:Nat) < 57) (Still.qt (s_load1_row _ _ ldT_3_i rfl rfl (by first | rfl | exact List.getElem?_eq_getElem (by omega)) rfl)) ?_
    refine AXl.qt rfl (by decide : (19:Nat) < 57) (Still.qt (s_icmp _ _ _ _ _ rfl rfl rfl)) ?_
    refine AXl.qt rfl (by decide : (20:Nat) < 57) (Still.qt (s_move _)) ?_
    refine AXl.nm_i0 ?_
    refine AXl.split 20 _ rfl (fun hg15 => ?_) (fun hg15 => ?_)
    · try simp only [decide_eq_true_eq, decide_eq_false_iff_not, Bool.not_eq_true', Bool.not_eq_false', Int.not_lt, Int.not_le, ne_eq, Decidable.not_not, bne_iff_ne, beq_iff_eq, Bool.and_eq_true, Bool.or_eq_true, Bool.and_eq_false_iff, Bool.or_eq_false_iff, Bool.not_not, Ax.u8eq] at hg15
      simp only [del, ↓reduceIte, Nat.reduceEqDiff]
      refine AXl.qt_guard (by decide : (21:Nat) < 57) rfl (by kernel_rfl) (Still.qt (s_move _)) ?_
      refine AXl.qt_guard (by decide : (22:Nat) < 57) rfl (by kernel_rfl) (Still.qt (s_move _)) ?_
      first
        | refine AXl.qt_guard (by decide : (23:Nat) < 57) rfl (by kernel_rfl) (Still.qt (s_index _ _ _ slT_35_i (.inl rfl) rfl rfl (by first | omega | (simp only [List.length_map, List.length_cons, List.length_nil, List.length_append, List.length_take, List.length_drop]; omega)) (List.getElem?_eq_getElem (by first | omega | (simp only [List.length_map, List.length_cons, List.length_nil, List.length_append, List.length_take, List.length_drop]; omega))))) ?_
        | refine AXl.qt_guard (by decide : (23:Nat) < 57) rfl (by kernel_rfl) (Still.qt (s_index _ _ _ slT_35_i (.inr rfl) rfl rfl (by first | omega | (simp only [List.length_map, List.length_cons, List.length_nil, List.length_append, List.length_take, List.length_drop]; omega)) (List.getElem?_eq_getElem (by first | omega | (simp only [List.length_map, List.length_cons, List.length_nil, List.length_append, List.length_take, List.length_drop]; omega))))) ?_
        | refine AXl.qt_guard (by decide : (23:Nat) < 57) rfl (by kernel_rfl) (Still.qt (s_index_own _ _ _ slT_35_i rfl rfl rfl rfl (by first | omega | (simp only [List.length_map, List.length_cons, List.length_nil, List.length_append, List.length_take, List.length_drop]; omega)) (by first | omega | (simp only [List.length_map, List.length_cons, List.length_nil, List.length_append, List.length_take, List.length_drop]; omega)))) ?_
      refine AXl.nm_i0 ?_
      first
        | refine AXl.qt_guard (by decide : (24:Nat) < 57) rfl (by kernel_rfl) (Still.qt (s_field_loc _ _ _ fdT_41_0_i rfl)) ?_
        | refine AXl.qt_guard (by decide : (24:Nat) < 57) rfl (by kernel_rfl) (Still.qt (s_field_ptr _ _ _ fdT_41_0_i rfl)) ?_
        | refine AXl.qt_guard (by decide : (24:Nat) < 57) rfl (by kernel_rfl) (Still.qt (s_field_row _ _ _ fdT_41_0_i rfl rfl)) ?_
      first
        | refine AXl.qt_guard (by decide : (25:Nat) < 57) rfl (by kernel_rfl) (Still.qt (s_load1 _ _ ldT_3_i rfl)) ?_
        | refine AXl.qt_guard (by decide : (25:Nat) < 57) rfl (by kernel_rfl) (Still.qt (s_load1_row _ _ ldT_3_i rfl rfl (by first | rfl | exact List.getElem?_eq_getElem (by omega)) rfl)) ?_
      refine AXl.qt_guard (by decide : (26:Nat) < 57) rfl (by kernel_rfl) (Still.qt (s_icmp _ _ _ _ _ rfl rfl rfl)) ?_
      refine AXl.qt rfl (by decide : (27:Nat) < 57) (Still.qt (s_pick_t _ _ _ rfl)) ?_
      refine AXl.qt rfl (by decide : (28:Nat) < 57) (Still.qt (s_move _)) ?_
      refine AXl.nm_i0 ?_
      refine AXl.split 28 _ rfl (fun hg16 => ?_) (fun hg16 => ?_)
      · try simp only [decide_eq_true_eq, decide_eq_false_iff_not, Bool.not_eq_true', Bool.not_eq_false', Int.not_lt, Int.not_le, ne_eq, Decidable.not_not, bne_iff_ne, beq_iff_eq, Bool.and_eq_true, Bool.or_eq_true, Bool.and_eq_false_iff, Bool.or_eq_false_iff, Bool.not_not, Ax.u8eq] at hg16
        simp only [del, ↓reduceIte, Nat.reduceEqDiff]
        refine AXl.qt_guard (by decide : (29:Nat) < 57) rfl (by kernel_rfl) (Still.qt (s_move _)) ?_
        refine AXl.qt_guard (by decide : (30:Nat) < 57) rfl (by kernel_rfl) (Still.qt (s_move _)) ?_
        first
          | refine AXl.qt_guard (by decide : (31:Nat) < 57) rfl (by kernel_rfl) (Still.qt (s_index _ _ _ slT_35_i (.inl rfl) rfl rfl (by first | omega | (simp only [List.length_map, List.length_cons, List.length_nil, List.length_append, List.length_take, List.length_drop]; omega)) (List.getElem?_eq_getElem (by first | omega | (simp only [List.length_map, List.length_cons, List.length_nil, List.length_append, List.length_take, List.length_drop]; omega))))) ?_
          | refine AXl.qt_guard (by decide : (31:Nat) < 57) rfl (by kernel_rfl) (Still.qt (s_index _ _ _ slT_35_i (.inr rfl) rfl rfl (by first | omega | (simp only [List.length_map, List.length_cons, List.length_nil, List.length_append, List.length_take, List.length_drop]; omega)) (List.getElem?_eq_getElem (by first | omega | (simp only [List.length_map, List.length_cons, List.length_nil, List.length_append, List.length_take, List.length_drop]; omega))))) ?_
          | refine AXl.qt_guard (by decide : (31:Nat) < 57) rfl (by kernel_rfl) (Still.qt (s_index_own _ _ _ slT_35_i rfl rfl rfl rfl (by first | omega | (simp only [List.length_map, List.length_cons, List.length_nil, List.length_append, List.length_take, List.length_drop]; omega)) (by first | omega | (simp only [List.length_map, List.length_cons, List.length_nil, List.length_append, List.length_take, List.length_drop]; omega)))) ?_
        refine AXl.nm_i0 ?_
        first
          | refine AXl.qt_guard (by decide : (32:Nat) < 57) rfl (by kernel_rfl) (Still.qt (s_field_loc _ _ _ fdT_41_1_i rfl)) ?_
          | refine AXl.qt_guard (by decide : (32:Nat) < 57) rfl (by kernel_rfl) (Still.qt (s_field_ptr _ _ _ fdT_41_1_i rfl)) ?_
          | refine AXl.qt_guard (by decide : (32:Nat) < 57) rfl (by kernel_rfl) (Still.qt (s_field_row _ _ _ fdT_41_1_i rfl rfl)) ?_
        first
          | refine AXl.qt_guard (by decide : (33:Nat) < 57) rfl (by kernel_rfl) (Still.qt (s_load1 _ _ ldT_3_i rfl)) ?_
          | refine AXl.qt_guard (by decide : (33:Nat) < 57) rfl (by kernel_rfl) (Still.qt (s_load1_row _ _ ldT_3_i rfl rfl (by first | rfl | exact List.getElem?_eq_getElem (by omega)) rfl)) ?_
        refine AXl.qt_guard (by decide : (34:Nat) < 57) rfl (by kernel_rfl) (Still.qt (s_move _)) ?_
        refine AXl.qt_guard (by decide : (35:Nat) < 57) rfl (by kernel_rfl) (Still.qt (s_icmp _ _ _ _ _ rfl rfl rfl)) ?_
        refine AXl.qt rfl (by decide : (36:Nat) < 57) (Still.qt (s_pick_t _ _ _ rfl)) ?_
        refine AXl.nm_i0 ?_
        refine AXl.nil ?_
        refine hK14 _ ?_
        clear hK14 K14
        refine Ethen.n ?_
        refine hK13 _ ?_
        clear hK13 K13
        refine AXc.cond rfl (fun hc17 => ?_) (fun hc17 => ?_)
        · try simp only [decide_eq_true_eq, decide_eq_false_iff_not, Bool.not_eq_true', Bool.not_eq_false', Int.not_lt, Int.not_le, ne_eq, Decidable.not_not, bne_iff_ne, beq_iff_eq, Bool.and_eq_true, Bool.or_eq_true, Bool.and_eq_false_iff, Bool.or_eq_false_iff, Bool.not_not, Ax.u8eq] at hc17
          refine AXc.draw' mixed_i 18 (by kernel_rfl) fun K18 hK18 => ?_
          simp only [List.take_succ_cons, List.take_zero, List.take_nil, List.drop_succ_cons, List.drop_zero, List.drop_nil]
          refine AXd.op rfl (Still.qt (s_move _)) ?_
          refine AXd.op rfl (Still.qt (s_move _)) ?_
          refine AXd.op rfl (Still.qt (s_move _)) ?_
          first
            | refine AXd.op rfl (Still.qt (s_index _ _ _ slT_35_i (.inl rfl) rfl rfl (by first | omega | (simp only [List.length_map, List.length_cons, List.length_nil, List.length_append, List.length_take, List.length_drop]; omega)) (List.getElem?_eq_getElem (by first | omega | (simp only [List.length_map, List.length_cons, List.length_nil, List.length_append, List.length_take, List.length_drop]; omega))))) ?_
            | refine AXd.op rfl (Still.qt (s_index _ _ _ slT_35_i (.inr rfl) rfl rfl (by first | omega | (simp only [List.length_map, List.length_cons, List.length_nil, List.length_append, List.length_take, List.length_drop]; omega)) (List.getElem?_eq_getElem (by first | omega | (simp only [List.length_map, List.length_cons, List.length_nil, List.length_append, List.length_take, List.length_drop]; omega))))) ?_
            | refine AXd.op rfl (Still.qt (s_index_own _ _ _ slT_35_i rfl rfl rfl rfl (by first | omega | (simp only [List.length_map, List.length_cons, List.length_nil, List.length_append, List.length_take, List.length_drop]; omega)) (by first | omega | (simp only [List.length_map, List.length_cons, List.length_nil, List.length_append, List.length_take, List.length_drop]; omega)))) ?_
          refine AXd.nm_i0 ?_
          first
            | refine AXd.op rfl (Still.qt (s_field_loc _ _ _ fdT_41_0_i rfl)) ?_
            | refine AXd.op rfl (Still.qt (s_field_ptr _ _ _ fdT_41_0_i rfl)) ?_
            | refine AXd.op rfl (Still.qt (s_field_row _ _ _ fdT_41_0_i rfl rfl)) ?_
          first
            | refine AXd.op rfl (Still.qt (s_load1 _ _ ldT_3_i rfl)) ?_
            | refine AXd.op rfl (Still.qt (s_load1_row _ _ ldT_3_i rfl rfl (by first | rfl | exact List.getElem?_eq_getElem (by omega)) rfl)) ?_
          refine AXd.op rfl (Still.qt (s_move _)) ?_
          refine AXd.op rfl (Still.qt (s_move _)) ?_
          first
            | refine AXd.op rfl (Still.qt (s_index _ _ _ slT_35_i (.inl rfl) rfl rfl (by first | omega | (simp only [List.length_map, List.length_cons, List.length_nil, List.length_append, List.length_take, List.length_drop]; omega)) (List.getElem?_eq_getElem (by first | omega | (simp only [List.length_map, List.length_cons, List.length_nil, List.length_append, List.length_take, List.length_drop]; omega))))) ?_
            | refine AXd.op rfl (Still.qt (s_index _ _ _ slT_35_i (.inr rfl) rfl rfl (by first | omega | (simp only [List.length_map, List.length_cons, List.length_nil, List.length_append, List.length_take, List.length_drop]; omega)) (List.getElem?_eq_getElem (by first | omega | (simp only [List.length_map, List.length_cons, List.length_nil, List.length_append, List.length_take, List.length_drop]; omega))))) ?_
            | refine AXd.op rfl (Still.qt (s_index_own _ _ _ slT_35_i rfl rfl rfl rfl (by first | omega | (simp only [List.length_map, List.length_cons, List.length_nil, List.length_append, List.length_take, List.length_drop]; omega)) (by first | omega | (simp only [List.length_map, List.length_cons, List.length_nil, List.length_append, List.length_take, List.length_drop]; omega)))) ?_
          refine AXd.nm_i0 ?_
          first
            | refine AXd.op rfl (Still.qt (s_field_loc _ _ _ fdT_41_2_i rfl)) ?_
            | refine AXd.op rfl (Still.qt (s_field_ptr _ _ _ fdT_41_2_i rfl)) ?_
            | refine AXd.op rfl (Still.qt (s_field_row _ _ _ fdT_41_2_i rfl rfl)) ?_
          first
            | refine AXd.op rfl (Still.qt (s_load1 _ _ ldT_9_i rfl)) ?_
            | refine AXd.op rfl (Still.qt (s_load1_row _ _ ldT_9_i rfl rfl (by first | rfl | exact List.getElem?_eq_getElem (by omega)) rfl)) ?_
          refine AXd.op rfl (Still.qt (s_move _)) ?_
          refine AXd.op rfl (Still.qt (s_move _)) ?_
          first
            | refine AXd.op rfl (Still.qt (s_index _ _ _ slT_35_i (.inl rfl) rfl rfl (by first | omega | (simp only [List.length_map, List.length_cons, List.length_nil, List.length_append, List.length_take, List.length_drop]; omega)) (List.getElem?_eq_getElem (by first | omega | (simp only [List.length_map, List.length_cons, List.length_nil, List.length_append, List.length_take, List.length_drop]; omega))))) ?_
            | refine AXd.op rfl (Still.qt (s_index _ _ _ slT_35_i (.inr rfl) rfl rfl (by first | omega | (simp only [List.length_map, List.length_cons, List.length_nil, List.length_append, List.length_take, List.length_drop]; omega)) (List.getElem?_eq_getElem (by first | omega | (simp only [List.length_map, List.length_cons, List.length_nil, List.length_append, List.length_take, List.length_drop]; omega))))) ?_
            | refine AXd.op rfl (Still.qt (s_index_own _ _ _ slT_35_i rfl rfl rfl rfl (by first | omega | (simp only [List.length_map, List.length_cons, List.length_nil, List.length_append, List.length_take, List.length_drop]; omega)) (by first | omega | (simp only [List.length_map, List.length_cons, List.length_nil, List.length_append, List.length_take, List.length_drop]; omega)))) ?_
          refine AXd.nm_i0 ?_
          first
            | refine AXd.op rfl (Still.qt (s_field_loc _ _ _ fdT_41_3_i rfl)) ?_
            | refine AXd.op rfl (Still.qt (s_field_ptr _ _ _ fdT_41_3_i rfl)) ?_
            | refine AXd.op rfl (Still.qt (s_field_row _ _ _ fdT_41_3_i rfl rfl)) ?_
          first
            | refine AXd.op rfl (Still.qt (s_load1 _ _ ldT_5_i rfl)) ?_
            | refine AXd.op rfl (Still.qt (s_load1_row _ _ ldT_5_i rfl rfl (by first | rfl | exact List.getElem?_eq_getElem (by omega)) rfl)) ?_
          refine AXd.nm_i0 ?_
          refine AXd.op rfl (Still.qt (s_build _ _ plT_41_i zC_41_i rfl)) ?_
          refine AXd.op rfl (q_buildSlice _ _ _ apT_35_i rfl rfl (by decide)) ?_
          refine AXd.nm_i0 ?_
          refine AXd.nil ?_
          first
            | refine AXl.append apT_35_i rfl rfl rfl (by simp only [List.length_append, List.length_map, List.length_cons, List.length_nil]; omega) (by simp only [List.length_append, List.length_map, List.length_cons, List.length_nil]; omega) (by decide : (55:Nat) < 57) ?_
            | refine AXl.append_nil apT_35_i rfl (by decide) rfl (by simp only [List.length_append, List.length_map, List.length_cons, List.length_nil]; omega) (by simp only [List.length_append, List.length_map, List.length_cons, List.length_nil]; omega) (by decide : (55:Nat) < 57) ?_
          refine AXl.qt rfl (by decide : (5:Nat) < 57) (Still.qt (s_assign _)) ?_
          refine AXl.nm_i0 ?_
          refine AXl.nil ?_
          refine hK18 _ ?_
          clear hK18 K18
          refine EinBlock.n ?_
          refine Ethen.n ?_
          refine hK12 _ ?_
          clear hK12 K12
          refine AXc.region' fun K19 hK19 => ?_
          refine AXl.qt rfl (by decide : (12:Nat) < 57) (Still.qt (s_move _)) ?_
          refine AXl.qt rfl (by decide : (13:Nat) < 57) (Still.qt (s_iar _ _ _ _ _ rfl rfl rfl (IntWalk.i64_in _ ⟨(by first | omega | (simp only [List.length_map, List.length_cons, List.length_nil, List.length_append, List.length_take, List.length_drop]; omega)), (by first | omega | (simp only [List.length_map, List.length_cons, List.length_nil, List.length_append, List.length_take, List.length_drop]; omega))⟩))) ?_
          refine AXl.qt rfl (by decide : (6:Nat) < 57) (Still.qt (s_assign _)) ?_
          refine AXl.nm_i0 ?_
          refine AXl.nil ?_
          refine hK19 _ ?_
          clear hK19 K19
          refine Ethen.n ?_
          clear hK5 K5
          first
            | (refine ⟨(k + 1, ver + 1), ?_⟩
               refine ⟨?_, ?_, ?_⟩
               · dsimp only; omega
               · dsimp only; omega
               · refine ⟨?_, ?_, ?_, ?_, ?_, ?_⟩ <;> (simp [subE, lk, AV.low, C.low, LB.low, Problem.ds, TagRule.ds, Fld.ds, Sub.ds, Rec.ds, e1, ownQ, hc11, hg15, hg16, hc17] <;> fail))
            | (refine ⟨(k + 1, ver), ?_⟩
               refine ⟨?_, ?_, ?_⟩
               · dsimp only; omega
               · dsimp only; omega
               · refine ⟨?_, ?_, ?_, ?_, ?_, ?_⟩ <;> (simp [subE, lk, AV.low, C.low, LB.low, Problem.ds, TagRule.ds, Fld.ds, Sub.ds, Rec.ds, e1, ownQ, hc11, hg15, hg16, hc17] <;> fail))
        · try simp only [decide_eq_true_eq, decide_eq_false_iff_not, Bool.not_eq_true', Bool.not_eq_false', Int.not_lt, Int.not_le, ne_eq, Decidable.not_not, bne_iff_ne, beq_iff_eq, Bool.and_eq_true, Bool.or_eq_true, Bool.and_eq_false_iff, Bool.or_eq_false_iff, Bool.not_not, Ax.u8eq] at hc17
          refine AXc.skip ?_
          refine EinBlock.n ?_
          refine Ethen.n ?_
          refine hK12 _ ?_
          clear hK12 K12
          refine AXc.region' fun K20 hK20 => ?_
          refine AXl.qt rfl (by decide : (12:Nat) < 57) (Still.qt (s_move _)) ?_
          refine AXl.qt rfl (by decide : (13:Nat) < 57) (Still.qt (s_iar _ _ _ _ _ rfl rfl rfl (IntWalk.i64_in _ ⟨(by first | omega | (simp only [List.length_map, List.length_cons, List.length_nil, List.length_append, List.length_take, List.length_drop]; omega)), (by first | omega | (simp only [List.length_map, List.length_cons, List.length_nil, List.length_append, List.length_take, List.length_drop]; omega))⟩))) ?_
          refine AXl.qt rfl (by decide : (6:Nat) < 57) (Still.qt (s_assign _)) ?_
          refine AXl.nm_i0 ?_
          refine AXl.nil ?_
          refine hK20 _ ?_
          clear hK20 K20
          refine Ethen.n ?_
          clear hK5 K5
          first
            | (refine ⟨(k + 1, ver + 1), ?_⟩
               refine ⟨?_, ?_, ?_⟩
               · dsimp only; omega
               · dsimp only; omega
               · refine ⟨?_, ?_, ?_, ?_, ?_, ?_⟩ <;> (simp [subE, lk, AV.low, C.low, LB.low, Problem.ds, TagRule.ds, Fld.ds, Sub.ds, Rec.ds, e1, ownQ, hc11, hg15, hg16, hc17] <;> fail))
            | (refine ⟨(k + 1, ver), ?_⟩
               refine ⟨?_, ?_, ?_⟩
               · dsimp only; omega
               · dsimp only; omega
               · refine ⟨?_, ?_, ?_, ?_, ?_, ?_⟩ <;> (simp [subE, lk, AV.low, C.low, LB.low, Problem.ds, TagRule.ds, Fld.ds, Sub.ds, Rec.ds, e1, ownQ, hc11, hg15, hg16, hc17] <;> fail))
      · try simp only [decide_eq_true_eq, decide_eq_false_iff_not, Bool.not_eq_true', Bool.not_eq_false', Int.not_lt, Int.not_le, ne_eq, Decidable.not_not, bne_iff_ne, beq_iff_eq, Bool.and_eq_true, Bool.or_eq_true, Bool.and_eq_false_iff, Bool.or_eq_false_iff, Bool.not_not, Ax.u8eq] at hg16
        simp only [del, ↓reduceIte, Nat.reduceEqDiff]
        refine AXl.skip_guard (by decide : (29:Nat) < 57) rfl (by kernel_rfl) ?_
        refine AXl.skip_guard (by decide : (30:Nat) < 57) rfl (by kernel_rfl) ?_
        refine AXl.skip_guard (by decide : (31:Nat) < 57) rfl (by kernel_rfl) ?_
        refine AXl.skip_guard (by decide : (32:Nat) < 57) rfl (by kernel_rfl) ?_
        refine AXl.skip_guard (by decide : (33:Nat) < 57) rfl (by kernel_rfl) ?_
        refine AXl.skip_guard (by decide : (34:Nat) < 57) rfl (by kernel_rfl) ?_
        refine AXl.skip_guard (by decide : (35:Nat) < 57) rfl (by kernel_rfl) ?_
        refine AXl.qt rfl (by decide : (36:Nat) < 57) (Still.qt (s_pick_f _ _ _ rfl)) ?_
        refine AXl.nm_i0 ?_
        refine AXl.nil ?_
        refine hK14 _ ?_
        clear hK14 K14
        refine Ethen.n ?_
        refine hK13 _ ?_
        clear hK13 K13
        refine AXc.cond_f rfl ?_
        refine AXc.skip ?_
        refine EinBlock.n ?_
        refine Ethen.n ?_
        refine hK12 _ ?_
        clear hK12 K12
        refine AXc.region' fun K21 hK21 => ?_
        refine AXl.qt rfl (by decide : (12:Nat) < 57) (Still.qt (s_move _)) ?_
        refine AXl.qt rfl (by decide : (13:Nat) < 57) (Still.qt (s_iar _ _ _ _ _ rfl rfl rfl (IntWalk.i64_in _ ⟨(by first | omega | (simp only [List.length_map, List.length_cons, List.length_nil, List.length_append, List.length_take, List.length_drop]; omega)), (by first | omega | (simp only [List.length_map, List.length_cons, List.length_nil, List.length_append, List.length_take, List.length_drop]; omega))⟩))) ?_
        refine AXl.qt rfl (by decide : (6:Nat) < 57) (Still.qt (s_assign _)) ?_
        refine AXl.nm_i0 ?_
        refine AXl.nil ?_
        refine hK21 _ ?_
        clear hK21 K21
        refine Ethen.n ?_
        clear hK5 K5
        first
          | (refine ⟨(k + 1, ver + 1), ?_⟩
             refine ⟨?_, ?_, ?_⟩
             · dsimp only; omega
             · dsimp only; omega
             · refine ⟨?_, ?_, ?_, ?_, ?_, ?_⟩ <;> (simp [subE, lk, AV.low, C.low, LB.low, Problem.ds, TagRule.ds, Fld.ds, Sub.ds, Rec.ds, e1, ownQ, hc11, hg15, hg16] <;> fail))
          | (refine ⟨(k + 1, ver), ?_⟩
             refine ⟨?_, ?_, ?_⟩
             · dsimp only; omega
             · dsimp only; omega
             · refine ⟨?_, ?_, ?_, ?_, ?_, ?_⟩ <;> (simp [subE, lk, AV.low, C.low, LB.low, Problem.ds, TagRule.ds, Fld.ds, Sub.ds, Rec.ds, e1, ownQ, hc11, hg15, hg16] <;> fail))
    · try simp only [decide_eq_true_eq, decide_eq_false_iff_not, Bool.not_eq_true', Bool.not_eq_false', Int.not_lt, Int.not_le, ne_eq, Decidable.not_not, bne_iff_ne, beq_iff_eq, Bool.and_eq_true, Bool.or_eq_true, Bool.and_eq_false_iff, Bool.or_eq_false_iff, Bool.not_not, Ax.u8eq] at hg15
      simp only [del, ↓reduceIte, Nat.reduceEqDiff]
      refine AXl.skip_guard (by decide : (21:Nat) < 57) rfl (by kernel_rfl) ?_
      refine AXl.skip_guard (by decide : (22:Nat) < 57) rfl (by kernel_rfl) ?_
      refine AXl.skip_guard (by decide : (23:Nat) < 57) rfl (by kernel_rfl) ?_
      refine AXl.skip_guard (by decide : (24:Nat) < 57) rfl (by kernel_rfl) ?_
      refine AXl.skip_guard (by decide : (25:Nat) < 57) rfl (by kernel_rfl) ?_
      refine AXl.skip_guard (by decide : (26:Nat) < 57) rfl (by kernel_rfl) ?_
      refine AXl.qt rfl (by decide : (27:Nat) < 57) (Still.qt (s_pick_f _ _ _ rfl)) ?_
      refine AXl.qt rfl (by decide : (28:Nat) < 57) (Still.qt (s_move _)) ?_
      refine AXl.skip_guard (by decide : (29:Nat) < 57) rfl (by kernel_rfl) ?_
      refine AXl.skip_guard (by decide : (30:Nat) < 57) rfl (by kernel_rfl) ?_
      refine AXl.skip_guard (by decide : (31:Nat) < 57) rfl (by kernel_rfl) ?_
      refine AXl.skip_guard (by decide : (32:Nat) < 57) rfl (by kernel_rfl) ?_
      refine AXl.nm_i0 ?_
      refine AXl.skip_guard (by decide : (33:Nat) < 57) rfl (by kernel_rfl) ?_
      refine AXl.skip_guard (by decide : (34:Nat) < 57) rfl (by kernel_rfl) ?_
      refine AXl.skip_guard (by decide : (35:Nat) < 57) rfl (by kernel_rfl) ?_
      refine AXl.qt rfl (by decide : (36:Nat) < 57) (Still.qt (s_pick_f _ _ _ rfl)) ?_
      refine AXl.nm_i0 ?_
      refine AXl.nil ?_
      refine hK14 _ ?_
      clear hK14 K14
      refine Ethen.n ?_
      refine hK13 _ ?_
      clear hK13 K13
      refine AXc.cond_f rfl ?_
      refine AXc.skip ?_
      refine EinBlock.n ?_
      refine Ethen.n ?_
      refine hK12 _ ?_
      clear hK12 K12
      refine AXc.region' fun K22 hK22 => ?_
      refine AXl.qt rfl (by decide : (12:Nat) < 57) (Still.qt (s_move _)) ?_
      refine AXl.qt rfl (by decide : (13:Nat) < 57) (Still.qt (s_iar _ _ _ _ _ rfl rfl rfl (IntWalk.i64_in _ ⟨(by first | omega | (simp only [List.length_map, List.length_cons, List.length_nil, List.length_append, List.length_take, List.length_drop]; omega)), (by first | omega | (simp only [List.length_map, List.length_cons, List.length_nil, List.length_append, List.length_take, List.length_drop]; omega))⟩))) ?_
      refine AXl.qt rfl (by decide : (6:Nat) < 57) (Still.qt (s_assign _)) ?_
      refine AXl.nm_i0 ?_
      refine AXl.nil ?_
      refine hK22 _ ?_
      clear hK22 K22
      refine Ethen.n ?_
      clear hK5 K5
      first
        | (refine ⟨(k + 1, ver + 1), ?_⟩
           refine ⟨?_, ?_, ?_⟩
           · dsimp only; omega
           · dsimp only; omega
           · refine ⟨?_, ?_, ?_, ?_, ?_, ?_⟩ <;> (simp [subE, lk, AV.low, C.low, LB.low, Problem.ds, TagRule.ds, Fld.ds, Sub.ds, Rec.ds, e1, ownQ, hc11, hg15] <;> fail))
        | (refine ⟨(k + 1, ver), ?_⟩
           refine ⟨?_, ?_, ?_⟩
           · dsimp only; omega
           · dsimp only; omega
           · refine ⟨?_, ?_, ?_, ?_, ?_, ?_⟩ <;> (simp [subE, lk, AV.low, C.low, LB.low, Problem.ds, TagRule.ds, Fld.ds, Sub.ds, Rec.ds, e1, ownQ, hc11, hg15] <;> fail))
  · try simp only [decide_eq_true_eq, decide_eq_false_iff_not, Bool.not_eq_true', Bool.not_eq_false', Int.not_lt, Int.not_le, ne_eq, Decidable.not_not, bne_iff_ne, beq_iff_eq, Bool.and_eq_true, Bool.or_eq_true, Bool.and_eq_false_iff, Bool.or_eq_false_iff, Bool.not_not, Ax.u8eq] at hc11
    refine AXc.exit ?_
    refine Ethen.e ?_
    clear hK8 K8
    refine Ethen.e ?_
    refine EinBlock.hit ?_
    refine Ethen.n ?_
    refine hK5 _ ?_
    clear hK5 K5
    refine AXc.seq fun K23 hK23 => ?_
    refine AXc.region' fun K24 hK24 => ?_
    refine AXl.qt rfl (by decide : (56:Nat) < 57) (Still.qt (s_move _)) ?_
    refine AXl.qt rfl (by decide : (4:Nat) < 57) (Still.qt (s_assign _)) ?_
    refine AXl.nm_i0 ?_
    refine AXl.nil ?_
    refine hK24 _ ?_
    clear hK24 K24
    refine Ethen.n ?_
    refine hK23 _ ?_
    clear hK23 K23
    refine AXc.ret ?_
    first
      | refine Fin.ret rfl (rvsOf_own rfl) ?_
      | refine Fin.ret rfl rfl ?_
    have : k = l.length := by dsimp only at hk0; omega
    subst this
    rw [List.take_length]
end Go.Proofs
