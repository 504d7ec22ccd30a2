/- Part of a proof about this program; no condition of its own. -/
import Derived.Test.YtjaooadhjmlhnaaDoorRDb
import Derived.Test.YtjaooadhjmlhnaaDoorProg
set_option linter.all false
namespace Go.Proofs
open Go Go.Ax Go.Rl
theorem zC_41_a : zeroC Tryd.prog 41 = some [.d (.int .i64 0), .d (.int .i64 0), .d (.str []), .d (.int .u8 0)] := by kernel_rfl
theorem plT_41_a : plT Tryd.prog 41 = some [(0, 1), (1, 1), (2, 1), (3, 1)] := by kernel_rfl
theorem sz_41_a : (Tryd.prog.info? 41).map (·.size) = some 4 := by kernel_rfl
theorem zC_29_a : zeroC Tryd.prog 29 = some [.d (.str []), .d (.bool false), .d (.bool false), .d (.str []), .d (.str []), .d (.str []), .d (.int .i64 0)] := by kernel_rfl
theorem plT_29_a : plT Tryd.prog 29 = some [(0, 1), (1, 1), (2, 1), (3, 1), (4, 1), (5, 1), (6, 1)] := by kernel_rfl
theorem sz_29_a : (Tryd.prog.info? 29).map (·.size) = some 7 := by kernel_rfl
theorem fdT_45_2_a : fdT Tryd.prog 45 2 = some 2 := by kernel_rfl
theorem ldT_43_a : ldT Tryd.prog 43 = some none := by kernel_rfl
theorem slT_43_a : slT Tryd.prog 43 = some (55, 2) := by kernel_rfl
theorem fdT_55_0_a : fdT Tryd.prog 55 0 = some 0 := by kernel_rfl
theorem ldT_5_a : ldT Tryd.prog 5 = some none := by kernel_rfl
theorem fdT_27_4_a : fdT Tryd.prog 27 4 = some 4 := by kernel_rfl
theorem ldT_25_a : ldT Tryd.prog 25 = some none := by kernel_rfl
theorem slT_25_a : slT Tryd.prog 25 = some (45, 4) := by kernel_rfl
theorem fdT_45_0_a : fdT Tryd.prog 45 0 = some 0 := by kernel_rfl
theorem ldT_9_a : ldT Tryd.prog 9 = some none := by kernel_rfl
theorem slT_22_a : slT Tryd.prog 22 = some (29, 7) := by kernel_rfl
theorem fdT_29_0_a : fdT Tryd.prog 29 0 = some 0 := by kernel_rfl
theorem ldT_29_a : ldT Tryd.prog 29 = some (some 7) := by kernel_rfl
theorem mixed_a : Tryd.prog.follows .mixedOrders = true := by kernel_rfl
theorem slT_35_a : slT Tryd.prog 35 = some (41, 4) := by kernel_rfl
theorem ldT_41_a : ldT Tryd.prog 41 = some (some 4) := by kernel_rfl
theorem eqT_41_a : EqT Tryd.prog 41 [0, 0, 2, 0] := ⟨by kernel_rfl, by kernel_rfl, by kernel_rfl, by kernel_rfl⟩
theorem AXl.nm_a0 {P : Program} {pm : Pm} {ops : Array Oper} {rest : List Oper} {st st' : St} {K : St → Prop} (hk : AXl P pm ops rest st' K) (he : st = st' := by first | (simp only [St.put, putE, U, del, lk, ev, cAV, lkG, rsAV, rvAV, ↓reduceIte, Nat.reduceEqDiff, Nat.reduceAdd, Nat.reduceMul, List.length_map, List.length_cons, List.length_nil, List.getElem_map, Int.toNat_natCast, List.cons_append, List.nil_append, List.set_cons_zero, List.set_cons_succ, splice, List.take_succ_cons, List.take_zero, List.drop_succ_cons, List.drop_zero, Nat.zero_add, Nat.add_zero, List.map_cons, List.map_nil, List.take_nil, List.drop_nil, List.append_nil]; done) | (simp only [St.put, putE, U, del, lk, ev, cAV, lkG, rsAV, rvAV, ↓reduceIte, Nat.reduceEqDiff, Nat.reduceAdd, Nat.reduceMul, List.length_map, List.length_cons, List.length_nil, List.getElem_map, Int.toNat_natCast, List.cons_append, List.nil_append, List.set_cons_zero, List.set_cons_succ, splice, List.take_succ_cons, List.take_zero, List.drop_succ_cons, List.drop_zero, Nat.zero_add, Nat.add_zero, List.map_cons, List.map_nil, List.take_nil, List.drop_nil, List.append_nil]; rfl) | rfl) : AXl P pm ops rest st K := he ▸ hk
theorem AXd.nm_a0 {P : Program} {pm : Pm} {h : List LB} {ops : Array Oper} {pre : List Oper} {ρ ρ' : List (Nat × AV)} {Kd : List (Nat × AV) → Prop} (hk : AXd P pm h ops pre ρ' Kd) (he : ρ = ρ' := by first | (simp only [St.put, putE, U, del, lk, ev, cAV, lkG, rsAV, rvAV, ↓reduceIte, Nat.reduceEqDiff, Nat.reduceAdd, Nat.reduceMul, List.length_map, List.length_cons, List.length_nil, List.getElem_map, Int.toNat_natCast, List.cons_append, List.nil_append, List.set_cons_zero, List.set_cons_succ, splice, List.take_succ_cons, List.take_zero, List.drop_succ_cons, List.drop_zero, Nat.zero_add, Nat.add_zero, List.map_cons, List.map_nil, List.take_nil, List.drop_nil, List.append_nil]; done) | (simp only [St.put, putE, U, del, lk, ev, cAV, lkG, rsAV, rvAV, ↓reduceIte, Nat.reduceEqDiff, Nat.reduceAdd, Nat.reduceMul, List.length_map, List.length_cons, List.length_nil, List.getElem_map, Int.toNat_natCast, List.cons_append, List.nil_append, List.set_cons_zero, List.set_cons_succ, splice, List.take_succ_cons, List.take_zero, List.drop_succ_cons, List.drop_zero, Nat.zero_add, Nat.add_zero, List.map_cons, List.map_nil, List.take_nil, List.drop_nil, List.append_nil]; rfl) | rfl) : AXd P pm h ops pre ρ Kd := he ▸ hk
theorem AXl.nm_a1 {P : Program} {pm : Pm} {ops : Array Oper} {rest : List Oper} {st st' : St} {K : St → Prop} (hk : AXl P pm ops rest st' K) (he : st = st' := by first | (simp only [St.put, putE, U, del, lk, ev, cAV, lkG, rsAV, rvAV, ↓reduceIte, Nat.reduceEqDiff, Nat.reduceAdd, Nat.reduceMul, List.length_map, List.length_cons, List.length_nil, List.getElem_map, Int.toNat_natCast, List.cons_append, List.nil_append, List.set_cons_zero, List.set_cons_succ, splice, List.take_succ_cons, List.take_zero, List.drop_succ_cons, List.drop_zero, Nat.zero_add, Nat.add_zero, List.map_cons, List.map_nil, List.take_nil, List.drop_nil, List.append_nil, Fld.ds, Sub.ds]; done) | (simp only [St.put, putE, U, del, lk, ev, cAV, lkG, rsAV, rvAV, ↓reduceIte, Nat.reduceEqDiff, Nat.reduceAdd, Nat.reduceMul, List.length_map, List.length_cons, List.length_nil, List.getElem_map, Int.toNat_natCast, List.cons_append, List.nil_append, List.set_cons_zero, List.set_cons_succ, splice, List.take_succ_cons, List.take_zero, List.drop_succ_cons, List.drop_zero, Nat.zero_add, Nat.add_zero, List.map_cons, List.map_nil, List.take_nil, List.drop_nil, List.append_nil, Fld.ds, Sub.ds]; rfl) | rfl) : AXl P pm ops rest st K := he ▸ hk
theorem AXd.nm_a1 {P : Program} {pm : Pm} {h : List LB} {ops : Array Oper} {pre : List Oper} {ρ ρ' : List (Nat × AV)} {Kd : List (Nat × AV) → Prop} (hk : AXd P pm h ops pre ρ' Kd) (he : ρ = ρ' := by first | (simp only [St.put, putE, U, del, lk, ev, cAV, lkG, rsAV, rvAV, ↓reduceIte, Nat.reduceEqDiff, Nat.reduceAdd, Nat.reduceMul, List.length_map, List.length_cons, List.length_nil, List.getElem_map, Int.toNat_natCast, List.cons_append, List.nil_append, List.set_cons_zero, List.set_cons_succ, splice, List.take_succ_cons, List.take_zero, List.drop_succ_cons, List.drop_zero, Nat.zero_add, Nat.add_zero, List.map_cons, List.map_nil, List.take_nil, List.drop_nil, List.append_nil, Fld.ds, Sub.ds]; done) | (simp only [St.put, putE, U, del, lk, ev, cAV, lkG, rsAV, rvAV, ↓reduceIte, Nat.reduceEqDiff, Nat.reduceAdd, Nat.reduceMul, List.length_map, List.length_cons, List.length_nil, List.getElem_map, Int.toNat_natCast, List.cons_append, List.nil_append, List.set_cons_zero, List.set_cons_succ, splice, List.take_succ_cons, List.take_zero, List.drop_succ_cons, List.drop_zero, Nat.zero_add, Nat.add_zero, List.map_cons, List.map_nil, List.take_nil, List.drop_nil, List.append_nil, Fld.ds, Sub.ds]; rfl) | rfl) : AXd P pm h ops pre ρ Kd := he ▸ hk
theorem AXl.nm_a2 {P : Program} {pm : Pm} {ops : Array Oper} {rest : List Oper} {st st' : St} {K : St → Prop} (hk : AXl P pm ops rest st' K) (he : st = st' := by first | (simp only [St.put, putE, U, del, lk, ev, cAV, lkG, rsAV, rvAV, ↓reduceIte, Nat.reduceEqDiff, Nat.reduceAdd, Nat.reduceMul, List.length_map, List.length_cons, List.length_nil, List.getElem_map, Int.toNat_natCast, List.cons_append, List.nil_append, List.set_cons_zero, List.set_cons_succ, splice, List.take_succ_cons, List.take_zero, List.drop_succ_cons, List.drop_zero, Nat.zero_add, Nat.add_zero, List.map_cons, List.map_nil, List.take_nil, List.drop_nil, List.append_nil, Rec.ds, Fld.ds]; done) | (simp only [St.put, putE, U, del, lk, ev, cAV, lkG, rsAV, rvAV, ↓reduceIte, Nat.reduceEqDiff, Nat.reduceAdd, Nat.reduceMul, List.length_map, List.length_cons, List.length_nil, List.getElem_map, Int.toNat_natCast, List.cons_append, List.nil_append, List.set_cons_zero, List.set_cons_succ, splice, List.take_succ_cons, List.take_zero, List.drop_succ_cons, List.drop_zero, Nat.zero_add, Nat.add_zero, List.map_cons, List.map_nil, List.take_nil, List.drop_nil, List.append_nil, Rec.ds, Fld.ds]; rfl) | rfl) : AXl P pm ops rest st K := he ▸ hk
theorem AXd.nm_a2 {P : Program} {pm : Pm} {h : List LB} {ops : Array Oper} {pre : List Oper} {ρ ρ' : List (Nat × AV)} {Kd : List (Nat × AV) → Prop} (hk : AXd P pm h ops pre ρ' Kd) (he : ρ = ρ' := by first | (simp only [St.put, putE, U, del, lk, ev, cAV, lkG, rsAV, rvAV, ↓reduceIte, Nat.reduceEqDiff, Nat.reduceAdd, Nat.reduceMul, List.length_map, List.length_cons, List.length_nil, List.getElem_map, Int.toNat_natCast, List.cons_append, List.nil_append, List.set_cons_zero, List.set_cons_succ, splice, List.take_succ_cons, List.take_zero, List.drop_succ_cons, List.drop_zero, Nat.zero_add, Nat.add_zero, List.map_cons, List.map_nil, List.take_nil, List.drop_nil, List.append_nil, Rec.ds, Fld.ds]; done) | (simp only [St.put, putE, U, del, lk, ev, cAV, lkG, rsAV, rvAV, ↓reduceIte, Nat.reduceEqDiff, Nat.reduceAdd, Nat.reduceMul, List.length_map, List.length_cons, List.length_nil, List.getElem_map, Int.toNat_natCast, List.cons_append, List.nil_append, List.set_cons_zero, List.set_cons_succ, splice, List.take_succ_cons, List.take_zero, List.drop_succ_cons, List.drop_zero, Nat.zero_add, Nat.add_zero, List.map_cons, List.map_nil, List.take_nil, List.drop_nil, List.append_nil, Rec.ds, Fld.ds]; rfl) | rfl) : AXd P pm h ops pre ρ Kd := he ▸ hk
/-- The contract of library libraryref09.Has. -/
theorem c28 {Γ : List (Nat × List D)} (l : Str) (c : UInt8) (hl : l.length ≤ 1000000) : AFn Tryd.prog Γ 28 [.c (.d (.str l)), .c (.d (dB c))] [.d (.bool (l.any (· == c)))] := by
  refine AFn.of_body0 (n := 17) (res := [.tmp 4]) Tryd.func28 (by kernel_rfl) rfl Tryd.ntmps28 (by rw [Tryd.results28]) (by simp) ?_
  simp only [envOf, Nat.reduceAdd]
  refine AXc.seq fun K1 hK1 => ?_
  refine AXc.region' fun K2 hK2 => ?_
  refine AXl.qt rfl (by decide : (4:Nat) < 17) (Still.qt (s_assign _)) ?_
  refine AXl.nm_a0 ?_
  refine AXl.nil ?_
  refine hK2 _ ?_
  clear hK2 K2
  refine Ethen.n ?_
  refine hK1 _ ?_
  clear hK1 K1
  refine AXc.seq fun K3 hK3 => ?_
  refine AXc.seq fun K4 hK4 => ?_
  refine AXc.region' fun K5 hK5 => ?_
  refine AXl.qt rfl (by decide : (5:Nat) < 17) (Still.qt (s_assign _)) ?_
  refine AXl.nm_a0 ?_
  refine AXl.nil ?_
  refine hK5 _ ?_
  clear hK5 K5
  refine Ethen.n ?_
  refine hK4 _ ?_
  clear hK4 K4
  refine AXc.block ?_
  refine AXc.loop (S := Nat) (fun k => ⟨[(0, .c (.d (.str l))), (1, .c (.d (dB c))), (5, .c (.d (.int .i64 k)))], []⟩) (fun k => k ≤ l.length ∧ (l.drop k).any (· == c) = l.any (· == c)) (fun k => l.length - k) 0 ⟨by omega, by simp⟩ (by refine ⟨?_, ?_, ?_, ?_, ?_, ?_⟩ <;> (simp [subE, lk, AV.low, C.low, LB.low] <;> fail)) ?_
  rintro k ⟨hk0, hinv⟩
  refine AXc.seq fun K6 hK6 => ?_
  refine AXc.seq fun K7 hK7 => ?_
  refine AXc.region' fun K8 hK8 => ?_
  refine AXl.qt rfl (by decide : (6:Nat) < 17) (Still.qt (s_move _)) ?_
  refine AXl.qt rfl (by decide : (7:Nat) < 17) (Still.qt (s_move _)) ?_
  refine AXl.qt rfl (by decide : (8:Nat) < 17) (Still.qt (s_len_str _ _ Tryd.underlying9 rfl)) ?_
  refine AXl.qt rfl (by decide : (9:Nat) < 17) (Still.qt (s_icmp _ _ _ _ _ rfl rfl rfl)) ?_
  refine AXl.nm_a0 ?_
  refine AXl.nil ?_
  refine hK8 _ ?_
  clear hK8 K8
  refine Ethen.n ?_
  refine hK7 _ ?_
  clear hK7 K7
  refine AXc.cond rfl (fun hc9 => ?_) (fun hc9 => ?_)
  · try simp only [decide_eq_true_eq, decide_eq_false_iff_not, Bool.not_eq_true', Bool.not_eq_false', Int.not_lt, Int.not_le, ne_eq, Decidable.not_not, bne_iff_ne, beq_iff_eq, Bool.and_eq_true, Bool.or_eq_true, Bool.and_eq_false_iff, Bool.or_eq_false_iff, Bool.not_not, Ax.u8eq] at hc9
    refine AXc.skip ?_
    refine Ethen.n ?_
    refine hK6 _ ?_
    clear hK6 K6
    refine AXc.seq fun K10 hK10 => ?_
    refine AXc.block ?_
    refine AXc.seq fun K11 hK11 => ?_
    refine AXc.region' fun K12 hK12 => ?_
    refine AXl.qt rfl (by decide : (12:Nat) < 17) (Still.qt (s_move _)) ?_
    refine AXl.qt rfl (by decide : (13:Nat) < 17) (Still.qt (s_move _)) ?_
    refine AXl.nm_a0 ?_
    refine AXl.qt rfl (by decide : (14:Nat) < 17) (Still.qt (s_index_str _ _ _ Tryd.underlying9 rfl rfl (by first | omega | (simp only [List.length_map, List.length_cons, List.length_nil, List.length_append, List.length_take, List.length_drop]; omega)) (List.getElem?_eq_getElem (by first | omega | (simp only [List.length_map, List.length_cons, List.length_nil, List.length_append, List.length_take, List.length_drop]; omega))))) ?_
    refine AXl.qt rfl (by decide : (15:Nat) < 17) (Still.qt (s_move _)) ?_
    refine AXl.qt rfl (by decide : (16:Nat) < 17) (Still.qt (s_icmp _ _ _ _ _ rfl rfl rfl)) ?_
    refine AXl.nm_a0 ?_
    refine AXl.nil ?_
    refine hK12 _ ?_
    clear hK12 K12
    refine Ethen.n ?_
    refine hK11 _ ?_
    clear hK11 K11
    refine AXc.cond rfl (fun hc13 => ?_) (fun hc13 => ?_)
    · try simp only [decide_eq_true_eq, decide_eq_false_iff_not, Bool.not_eq_true', Bool.not_eq_false', Int.not_lt, Int.not_le, ne_eq, Decidable.not_not, bne_iff_ne, beq_iff_eq, Bool.and_eq_true, Bool.or_eq_true, Bool.and_eq_false_iff, Bool.or_eq_false_iff, Bool.not_not, Ax.u8eq] at hc13
      refine AXc.seq fun K14 hK14 => ?_
      refine AXc.region' fun K15 hK15 => ?_
      refine AXl.qt rfl (by decide : (4:Nat) < 17) (Still.qt (s_assign _)) ?_
      refine AXl.nm_a0 ?_
      refine AXl.nil ?_
      refine hK15 _ ?_
      clear hK15 K15
      refine Ethen.n ?_
      refine hK14 _ ?_
      clear hK14 K14
      refine AXc.ret ?_
      refine EinBlock.r ?_
      refine Ethen.r ?_
      clear hK10 K10
      refine Ethen.r ?_
      refine EinBlock.r ?_
      refine Ethen.r ?_
      clear hK3 K3
      refine Fin.ret rfl rfl ?_
      first
        | (have hk : k < l.length := by omega
           rw [← hinv, drop_cons hk, List.any_cons]; simp_all; done)
        | (rw [← hinv, drop_end (by omega)]; rfl)
    · try simp only [decide_eq_true_eq, decide_eq_false_iff_not, Bool.not_eq_true', Bool.not_eq_false', Int.not_lt, Int.not_le, ne_eq, Decidable.not_not, bne_iff_ne, beq_iff_eq, Bool.and_eq_true, Bool.or_eq_true, Bool.and_eq_false_iff, Bool.or_eq_false_iff, Bool.not_not, Ax.u8eq] at hc13
      refine AXc.skip ?_
      refine EinBlock.n ?_
      refine Ethen.n ?_
      refine hK10 _ ?_
      clear hK10 K10
      refine AXc.region' fun K16 hK16 => ?_
      refine AXl.qt rfl (by decide : (10:Nat) < 17) (Still.qt (s_move _)) ?_
      refine AXl.qt rfl (by decide : (11:Nat) < 17) (Still.qt (s_iar _ _ _ _ _ rfl rfl rfl (IntWalk.i64_in _ ⟨(by first | omega | (simp only [List.length_map, List.length_cons, List.length_nil, List.length_append, List.length_take, List.length_drop]; omega)), (by first | omega | (simp only [List.length_map, List.length_cons, List.length_nil, List.length_append, List.length_take, List.length_drop]; omega))⟩))) ?_
      refine AXl.qt rfl (by decide : (5:Nat) < 17) (Still.qt (s_assign _)) ?_
      refine AXl.nm_a0 ?_
      refine AXl.nil ?_
      refine hK16 _ ?_
      clear hK16 K16
      refine Ethen.n ?_
      clear hK3 K3
      have hk : k < l.length := by omega
      refine ⟨k + 1, ⟨by omega, ?_⟩, by omega, (by refine ⟨?_, ?_, ?_, ?_, ?_, ?_⟩ <;> (simp [subE, lk, AV.low, C.low, LB.low] <;> fail))⟩
      rw [drop_cons hk] at hinv; simp only [List.any_cons, beq_false_of_ne hc13, Bool.false_or] at hinv
      exact hinv
  · try simp only [decide_eq_true_eq, decide_eq_false_iff_not, Bool.not_eq_true', Bool.not_eq_false', Int.not_lt, Int.not_le, ne_eq, Decidable.not_not, bne_iff_ne, beq_iff_eq, Bool.and_eq_true, Bool.or_eq_true, Bool.and_eq_false_iff, Bool.or_eq_false_iff, Bool.not_not, Ax.u8eq] at hc9
    refine AXc.exit ?_
    refine Ethen.e ?_
    clear hK6 K6
    refine Ethen.e ?_
    refine EinBlock.hit ?_
    refine Ethen.n ?_
    refine hK3 _ ?_
    clear hK3 K3
    refine AXc.seq fun K17 hK17 => ?_
    refine AXc.region' fun K18 hK18 => ?_
    refine AXl.qt rfl (by decide : (4:Nat) < 17) (Still.qt (s_assign _)) ?_
    refine AXl.nm_a0 ?_
    refine AXl.nil ?_
    refine hK18 _ ?_
    clear hK18 K18
    refine Ethen.n ?_
    refine hK17 _ ?_
    clear hK17 K17
    refine AXc.ret ?_
    refine Fin.ret rfl rfl ?_
    first
      | (have hk : k < l.length := by omega
         rw [← hinv, drop_cons hk, List.any_cons]; simp_all; done)
      | (rw [← hinv, drop_end (by omega)]; rfl)
/-- The contract of library libraryref09.problem. -/
theorem c27 {Γ : List (Nat × List D)} (a b : Int) (t : Str) (c : UInt8) : AFn Tryd.prog Γ 27 [.c (.d (.int .i64 a)), .c (.d (.int .i64 b)), .c (.d (.str t)), .c (.d (dB c))] [.agg (Problem.ds ⟨a, b, t, c⟩)] := by
  refine AFn.of_body0 (n := 14) (res := [.cell 8 41]) Tryd.func27 (by kernel_rfl) rfl Tryd.ntmps27 (by rw [Tryd.results27]) (by simp) ?_
  simp only [envOf, Nat.reduceAdd]
  refine AXc.seq fun K1 hK1 => ?_
  refine AXc.region' fun K2 hK2 => ?_
  refine AXl.alloc zC_41_a (by decide : (8:Nat) < 14) ?_
  refine AXl.nm_a0 ?_
  refine AXl.nil ?_
  refine hK2 _ ?_
  clear hK2 K2
  refine Ethen.n ?_
  refine hK1 _ ?_
  clear hK1 K1
  refine AXc.seq fun K3 hK3 => ?_
  refine AXc.region' fun K4 hK4 => ?_
  refine AXl.qt rfl (by decide : (9:Nat) < 14) (Still.qt (s_move _)) ?_
  refine AXl.qt rfl (by decide : (10:Nat) < 14) (Still.qt (s_move _)) ?_
  refine AXl.qt rfl (by decide : (11:Nat) < 14) (Still.qt (s_move _)) ?_
  refine AXl.qt rfl (by decide : (12:Nat) < 14) (Still.qt (s_move _)) ?_
  refine AXl.nm_a0 ?_
  refine AXl.qt rfl (by decide : (13:Nat) < 14) (Still.qt (s_build _ _ plT_41_a zC_41_a rfl)) ?_
  refine AXl.nm_a0 ?_
  first
    | refine AXl.store rfl rfl rfl sz_41_a (by simp [Problem.ds, TagRule.ds, Fld.ds, Sub.ds, Rec.ds]) rfl ?_
    | refine AXl.store_row rfl rfl (by first | rfl | exact List.getElem?_eq_getElem (by omega)) rfl sz_41_a (by simp [Problem.ds, TagRule.ds, Fld.ds, Sub.ds, Rec.ds]) rfl ?_
  refine AXl.nm_a0 ?_
  refine AXl.nil ?_
  refine hK4 _ ?_
  clear hK4 K4
  refine Ethen.n ?_
  refine hK3 _ ?_
  clear hK3 K3
  refine AXc.ret ?_
  refine Fin.ret rfl rfl ?_
  rfl
/-- The contract of library libraryref09.rule. -/
theorem c32 {Γ : List (Nat × List D)} (x : TagRule) : AFn Tryd.prog Γ 32 [.c (.d (.str x.tag)), .c (.d (.bool x.rep)), .c (.d (.bool x.must)), .c (.d (.str x.codes)), .c (.d (.str x.once)), .c (.d (.str x.needs)), .c (.d (.int .i64 x.auth))] [.agg x.ds] := by
  refine AFn.of_body0 (n := 23) (res := [.cell 14 29]) Tryd.func32 (by kernel_rfl) rfl Tryd.ntmps32 (by rw [Tryd.results32]) (by simp) ?_
  simp only [envOf, Nat.reduceAdd]
  refine AXc.seq fun K1 hK1 => ?_
  refine AXc.region' fun K2 hK2 => ?_
  refine AXl.alloc zC_29_a (by decide : (14:Nat) < 23) ?_
  refine AXl.nm_a0 ?_
  refine AXl.nil ?_
  refine hK2 _ ?_
  clear hK2 K2
  refine Ethen.n ?_
  refine hK1 _ ?_
  clear hK1 K1
  refine AXc.seq fun K3 hK3 => ?_
  refine AXc.region' fun K4 hK4 => ?_
  refine AXl.qt rfl (by decide : (15:Nat) < 23) (Still.qt (s_move _)) ?_
  refine AXl.qt rfl (by decide : (16:Nat) < 23) (Still.qt (s_move _)) ?_
  refine AXl.qt rfl (by decide : (17:Nat) < 23) (Still.qt (s_move _)) ?_
  refine AXl.qt rfl (by decide : (18:Nat) < 23) (Still.qt (s_move _)) ?_
  refine AXl.qt rfl (by decide : (19:Nat) < 23) (Still.qt (s_move _)) ?_
  refine AXl.qt rfl (by decide : (20:Nat) < 23) (Still.qt (s_move _)) ?_
  refine AXl.qt rfl (by decide : (21:Nat) < 23) (Still.qt (s_move _)) ?_
  refine AXl.nm_a0 ?_
  refine AXl.qt rfl (by decide : (22:Nat) < 23) (Still.qt (s_build _ _ plT_29_a zC_29_a rfl)) ?_
  refine AXl.nm_a0 ?_
  first
    | refine AXl.store rfl rfl rfl sz_29_a (by simp [Problem.ds, TagRule.ds, Fld.ds, Sub.ds, Rec.ds]) rfl ?_
    | refine AXl.store_row rfl rfl (by first | rfl | exact List.getElem?_eq_getElem (by omega)) rfl sz_29_a (by simp [Problem.ds, TagRule.ds, Fld.ds, Sub.ds, Rec.ds]) rfl ?_
  refine AXl.nm_a0 ?_
  refine AXl.nil ?_
  refine hK4 _ ?_
  clear hK4 K4
  refine Ethen.n ?_
  refine hK3 _ ?_
  clear hK3 K3
  refine AXc.ret ?_
  refine Fin.ret rfl rfl ?_
  rfl
/-- The contract of library libraryref09.Count. -/
theorem c29 {Γ : List (Nat × List D)} (f : Fld) (n : Nat) (c : UInt8) (hn : n ≤ f.subs.length) (hl : f.subs.length ≤ 1000000) : AFn Tryd.prog Γ 29 [.agg (f.ds.map C.d), .c (.d (.int .i64 n)), .c (.d (dB c))] [.d (.int .i64 (cnt (f.subs.take n) c : Nat))] := by
  refine AFn.of_body0 (n := 25) (res := [.tmp 6]) Tryd.func29 (by kernel_rfl) rfl Tryd.ntmps29 (by rw [Tryd.results29]) (by simp) ?_
  simp only [envOf, Nat.reduceAdd]
  refine AXc.seq fun K1 hK1 => ?_
  refine AXc.region' fun K2 hK2 => ?_
  refine AXl.box rfl (by decide : (3:Nat) < 25) ?_
  refine AXl.qt rfl (by decide : (6:Nat) < 25) (Still.qt (s_assign _)) ?_
  refine AXl.nm_a1 ?_
  refine AXl.nil ?_
  refine hK2 _ ?_
  clear hK2 K2
  refine Ethen.n ?_
  refine hK1 _ ?_
  clear hK1 K1
  refine AXc.seq fun K3 hK3 => ?_
  refine AXc.region' fun K4 hK4 => ?_
  refine AXl.qt rfl (by decide : (7:Nat) < 25) (Still.qt (s_assign _)) ?_
  refine AXl.nm_a1 ?_
  refine AXl.nil ?_
  refine hK4 _ ?_
  clear hK4 K4
  refine Ethen.n ?_
  refine hK3 _ ?_
  clear hK3 K3
  refine AXc.seq fun K5 hK5 => ?_
  refine AXc.seq fun K6 hK6 => ?_
  refine AXc.region' fun K7 hK7 => ?_
  refine AXl.qt rfl (by decide : (8:Nat) < 25) (Still.qt (s_assign _)) ?_
  refine AXl.nm_a1 ?_
  refine AXl.nil ?_
  refine hK7 _ ?_
  clear hK7 K7
  refine Ethen.n ?_
  refine hK6 _ ?_
  clear hK6 K6
  refine AXc.block ?_
  refine AXc.loop (S := Nat) (fun k => ⟨[(1, .c (.d (.int .i64 n))), (2, .c (.d (dB c))), (3, .c (.loc 0 0)), (7, .c (.d (.int .i64 (cnt (f.subs.take k) c : Nat)))), (8, .c (.d (.int .i64 k)))], [.box 45 (f.ds.map C.d)]⟩) (fun k => k ≤ n) (fun k => n - k) 0 (by omega) (by refine ⟨?_, ?_, ?_, ?_, ?_, ?_⟩ <;> (simp [subE, lk, AV.low, C.low, LB.low, cnt, Fld.ds] <;> fail)) ?_
  intro k hk0
  have hcn := cnt_le (f.subs.take k) c; rw [List.length_take] at hcn
  try simp only [Fld.ds, Sub.ds, List.map_cons, List.map_nil]
  refine AXc.seq fun K8 hK8 => ?_
  refine AXc.seq fun K9 hK9 => ?_
  refine AXc.region' fun K10 hK10 => ?_
  refine AXl.qt rfl (by decide : (9:Nat) < 25) (Still.qt (s_move _)) ?_
  refine AXl.qt rfl (by decide : (10:Nat) < 25) (Still.qt (s_move _)) ?_
  refine AXl.qt rfl (by decide : (11:Nat) < 25) (Still.qt (s_icmp _ _ _ _ _ rfl rfl rfl)) ?_
  refine AXl.nm_a1 ?_
  refine AXl.nil ?_
  refine hK10 _ ?_
  clear hK10 K10
  refine Ethen.n ?_
  refine hK9 _ ?_
  clear hK9 K9
  refine AXc.cond rfl (fun hc11 => ?_) (fun hc11 => ?_)
  · try simp only [decide_eq_true_eq, decide_eq_false_iff_not, Bool.not_eq_true', Bool.not_eq_false', Int.not_lt, Int.not_le, ne_eq, Decidable.not_not, bne_iff_ne, beq_iff_eq, Bool.and_eq_true, Bool.or_eq_true, Bool.and_eq_false_iff, Bool.or_eq_false_iff, Bool.not_not, Ax.u8eq] at hc11
    refine AXc.skip ?_
    refine Ethen.n ?_
    refine hK8 _ ?_
    clear hK8 K8
    refine AXc.seq fun K12 hK12 => ?_
    refine AXc.block ?_
    refine AXc.seq fun K13 hK13 => ?_
    refine AXc.region' fun K14 hK14 => ?_
    first
      | refine AXl.qt rfl (by decide : (14:Nat) < 25) (Still.qt (s_field_loc _ _ _ fdT_45_2_a rfl)) ?_
      | refine AXl.qt rfl (by decide : (14:Nat) < 25) (Still.qt (s_field_ptr _ _ _ fdT_45_2_a rfl)) ?_
      | refine AXl.qt rfl (by decide : (14:Nat) < 25) (Still.qt (s_field_row _ _ _ fdT_45_2_a rfl rfl)) ?_
    first
      | refine AXl.qt rfl (by decide : (15:Nat) < 25) (Still.qt (s_load1 _ _ ldT_43_a rfl)) ?_
      | refine AXl.qt rfl (by decide : (15:Nat) < 25) (Still.qt (s_load1_row _ _ ldT_43_a rfl rfl (by first | rfl | exact List.getElem?_eq_getElem (by omega)) rfl)) ?_
    refine AXl.qt rfl (by decide : (16:Nat) < 25) (Still.qt (s_move _)) ?_
    first
      | refine AXl.qt rfl (by decide : (17:Nat) < 25) (Still.qt (s_index _ _ _ slT_43_a (.inl rfl) rfl rfl (by first | omega | (simp only [List.length_map, List.length_cons, List.length_nil, List.length_append, List.length_take, List.length_drop]; omega)) (List.getElem?_eq_getElem (by first | omega | (simp only [List.length_map, List.length_cons, List.length_nil, List.length_append, List.length_take, List.length_drop]; omega))))) ?_
      | refine AXl.qt rfl (by decide : (17:Nat) < 25) (Still.qt (s_index _ _ _ slT_43_a (.inr rfl) rfl rfl (by first | omega | (simp only [List.length_map, List.length_cons, List.length_nil, List.length_append, List.length_take, List.length_drop]; omega)) (List.getElem?_eq_getElem (by first | omega | (simp only [List.length_map, List.length_cons, List.length_nil, List.length_append, List.length_take, List.length_drop]; omega))))) ?_
      | refine AXl.qt rfl (by decide : (17:Nat) < 25) (Still.qt (s_index_own _ _ _ slT_43_a rfl rfl rfl rfl (by first | omega | (simp only [List.length_map, List.length_cons, List.length_nil, List.length_append, List.length_take, List.length_drop]; omega)) (by first | omega | (simp only [List.length_map, List.length_cons, List.length_nil, List.length_append, List.length_take, List.length_drop]; omega)))) ?_
    refine AXl.nm_a1 ?_
    first
      | refine AXl.qt rfl (by decide : (18:Nat) < 25) (Still.qt (s_field_loc _ _ _ fdT_55_0_a rfl)) ?_
      | refine AXl.qt rfl (by decide : (18:Nat) < 25) (Still.qt (s_field_ptr _ _ _ fdT_55_0_a rfl)) ?_
      | refine AXl.qt rfl (by decide : (18:Nat) < 25) (Still.qt (s_field_row _ _ _ fdT_55_0_a rfl rfl)) ?_
    first
      | refine AXl.qt rfl (by decide : (19:Nat) < 25) (Still.qt (s_load1 _ _ ldT_5_a rfl)) ?_
      | refine AXl.qt rfl (by decide : (19:Nat) < 25) (Still.qt (s_load1_row _ _ ldT_5_a rfl rfl (by first | rfl | exact List.getElem?_eq_getElem (by omega)) rfl)) ?_
    refine AXl.qt rfl (by decide : (20:Nat) < 25) (Still.qt (s_move _)) ?_
    refine AXl.qt rfl (by decide : (21:Nat) < 25) (Still.qt (s_icmp _ _ _ _ _ rfl rfl rfl)) ?_
    refine AXl.nm_a1 ?_
    refine AXl.nil ?_
    refine hK14 _ ?_
    clear hK14 K14
    refine Ethen.n ?_
    refine hK13 _ ?_
    clear hK13 K13
    refine AXc.cond rfl (fun hc15 => ?_) (fun hc15 => ?_)
    · try simp only [decide_eq_true_eq, decide_eq_false_iff_not, Bool.not_eq_true', Bool.not_eq_false', Int.not_lt, Int.not_le, ne_eq, Decidable.not_not, bne_iff_ne, beq_iff_eq, Bool.and_eq_true, Bool.or_eq_true, Bool.and_eq_false_iff, Bool.or_eq_false_iff, Bool.not_not, Ax.u8eq] at hc15
      refine AXc.region' fun K16 hK16 => ?_
      refine AXl.qt rfl (by decide : (22:Nat) < 25) (Still.qt (s_move _)) ?_
      refine AXl.qt rfl (by decide : (23:Nat) < 25) (Still.qt (s_iar _ _ _ _ _ rfl rfl rfl (IntWalk.i64_in _ ⟨(by first | omega | (simp only [List.length_map, List.length_cons, List.length_nil, List.length_append, List.length_take, List.length_drop]; omega)), (by first | omega | (simp only [List.length_map, List.length_cons, List.length_nil, List.length_append, List.length_take, List.length_drop]; omega))⟩))) ?_
      refine AXl.qt rfl (by decide : (7:Nat) < 25) (Still.qt (s_assign _)) ?_
      refine AXl.nm_a1 ?_
      refine AXl.nil ?_
      refine hK16 _ ?_
      clear hK16 K16
      refine EinBlock.n ?_
      refine Ethen.n ?_
      refine hK12 _ ?_
      clear hK12 K12
      refine AXc.region' fun K17 hK17 => ?_
      refine AXl.qt rfl (by decide : (12:Nat) < 25) (Still.qt (s_move _)) ?_
      refine AXl.qt rfl (by decide : (13:Nat) < 25) (Still.qt (s_iar _ _ _ _ _ rfl rfl rfl (IntWalk.i64_in _ ⟨(by first | omega | (simp only [List.length_map, List.length_cons, List.length_nil, List.length_append, List.length_take, List.length_drop]; omega)), (by first | omega | (simp only [List.length_map, List.length_cons, List.length_nil, List.length_append, List.length_take, List.length_drop]; omega))⟩))) ?_
      refine AXl.qt rfl (by decide : (8:Nat) < 25) (Still.qt (s_assign _)) ?_
      refine AXl.nm_a1 ?_
      refine AXl.nil ?_
      refine hK17 _ ?_
      clear hK17 K17
      refine Ethen.n ?_
      clear hK5 K5
      have hk : k < f.subs.length := by omega
      have e1 : cnt (f.subs.take (k+1)) c = cnt (f.subs.take k) c + (if f.subs[k].code = c then 1 else 0) := by rw [take_next hk, cnt_snoc]
      refine ⟨k + 1, by omega, by omega, (by refine ⟨?_, ?_, ?_, ?_, ?_, ?_⟩ <;> (simp [subE, lk, AV.low, C.low, LB.low, e1, Fld.ds, hc15] <;> fail))⟩
    · try simp only [decide_eq_true_eq, decide_eq_false_iff_not, Bool.not_eq_true', Bool.not_eq_false', Int.not_lt, Int.not_le, ne_eq, Decidable.not_not, bne_iff_ne, beq_iff_eq, Bool.and_eq_true, Bool.or_eq_true, Bool.and_eq_false_iff, Bool.or_eq_false_iff, Bool.not_not, Ax.u8eq] at hc15
      refine AXc.skip ?_
      refine EinBlock.n ?_
      refine Ethen.n ?_
      refine hK12 _ ?_
      clear hK12 K12
      refine AXc.region' fun K18 hK18 => ?_
      refine AXl.qt rfl (by decide : (12:Nat) < 25) (Still.qt (s_move _)) ?_
      refine AXl.qt rfl (by decide : (13:Nat) < 25) (Still.qt (s_iar _ _ _ _ _ rfl rfl rfl (IntWalk.i64_in _ ⟨(by first | omega | (simp only [List.length_map, List.length_cons, List.length_nil, List.length_append, List.length_take, List.length_drop]; omega)), (by first | omega | (simp only [List.length_map, List.length_cons, List.length_nil, List.length_append, List.length_take, List.length_drop]; omega))⟩))) ?_
      refine AXl.qt rfl (by decide : (8:Nat) < 25) (Still.qt (s_assign _)) ?_
      refine AXl.nm_a1 ?_
      refine AXl.nil ?_
      refine hK18 _ ?_
      clear hK18 K18
      refine Ethen.n ?_
      clear hK5 K5
      have hk : k < f.subs.length := by omega
      have e1 : cnt (f.subs.take (k+1)) c = cnt (f.subs.take k) c + (if f.subs[k].code = c then 1 else 0) := by rw [take_next hk, cnt_snoc]
      refine ⟨k + 1, by omega, by omega, (by refine ⟨?_, ?_, ?_, ?_, ?_, ?_⟩ <;> (simp [subE, lk, AV.low, C.low, LB.low, e1, Fld.ds, hc15] <;> fail))⟩
  · try simp only [decide_eq_true_eq, decide_eq_false_iff_not, Bool.not_eq_true', Bool.not_eq_false', Int.not_lt, Int.not_le, ne_eq, Decidable.not_not, bne_iff_ne, beq_iff_eq, Bool.and_eq_true, Bool.or_eq_true, Bool.and_eq_false_iff, Bool.or_eq_false_iff, Bool.not_not, Ax.u8eq] at hc11
    refine AXc.exit ?_
    refine Ethen.e ?_
    clear hK8 K8
    refine Ethen.e ?_
    refine EinBlock.hit ?_
    refine Ethen.n ?_
    refine hK5 _ ?_
    clear hK5 K5
    refine AXc.seq fun K19 hK19 => ?_
    refine AXc.region' fun K20 hK20 => ?_
    refine AXl.qt rfl (by decide : (24:Nat) < 25) (Still.qt (s_move _)) ?_
    refine AXl.qt rfl (by decide : (6:Nat) < 25) (Still.qt (s_assign _)) ?_
    refine AXl.nm_a1 ?_
    refine AXl.nil ?_
    refine hK20 _ ?_
    clear hK20 K20
    refine Ethen.n ?_
    refine hK19 _ ?_
    clear hK19 K19
    refine AXc.ret ?_
    refine Fin.ret rfl rfl ?_
    have : k = n := by omega
    subst this
    rfl
/-- The contract of library libraryref09.Tagged. -/
theorem c26 {Γ : List (Nat × List D)} (r : Rec) (n : Nat) (t : Str) (hn : n ≤ r.fields.length) (hl : r.fields.length ≤ 1000000) : AFn Tryd.prog Γ 26 [.agg (r.ds.map C.d), .c (.d (.int .i64 n)), .c (.d (.str t))] [.d (.int .i64 (tagd (r.fields.take n) t : Nat))] := by
  refine AFn.of_body0 (n := 25) (res := [.tmp 6]) Tryd.func26 (by kernel_rfl) rfl Tryd.ntmps26 (by rw [Tryd.results26]) (by simp) ?_
  simp only [envOf, Nat.reduceAdd]
  refine AXc.seq fun K1 hK1 => ?_
  refine AXc.region' fun K2 hK2 => ?_
  refine AXl.box rfl (by decide : (3:Nat) < 25) ?_
  refine AXl.qt rfl (by decide : (6:Nat) < 25) (Still.qt (s_assign _)) ?_
  refine AXl.nm_a2 ?_
  refine AXl.nil ?_
  refine hK2 _ ?_
  clear hK2 K2
  refine Ethen.n ?_
  refine hK1 _ ?_
  clear hK1 K1
  refine AXc.seq fun K3 hK3 => ?_
  refine AXc.region' fun K4 hK4 => ?_
  refine AXl.qt rfl (by decide : (7:Nat) < 25) (Still.qt (s_assign _)) ?_
  refine AXl.nm_a2 ?_
  refine AXl.nil ?_
  refine hK4 _ ?_
  clear hK4 K4
  refine Ethen.n ?_
  refine hK3 _ ?_
  clear hK3 K3
  refine AXc.seq fun K5 hK5 => ?_
  refine AXc.seq fun K6 hK6 => ?_
  refine AXc.region' fun K7 hK7 => ?_
  refine AXl.qt rfl (by decide : (8:Nat) < 25) (Still.qt (s_assign _)) ?_
  refine AXl.nm_a2 ?_
  refine AXl.nil ?_
  refine hK7 _ ?_
  clear hK7 K7
  refine Ethen.n ?_
  refine hK6 _ ?_
  clear hK6 K6
  refine AXc.block ?_
  refine AXc.loop (S := Nat) (fun k => ⟨[(1, .c (.d (.int .i64 n))), (2, .c (.d (.str t))), (3, .c (.loc 0 0)), (7, .c (.d (.int .i64 (tagd (r.fields.take k) t : Nat)))), (8, .c (.d (.int .i64 k)))], [.box 27 (r.ds.map C.d)]⟩) (fun k => k ≤ n) (fun k => n - k) 0 (by omega) (by refine ⟨?_, ?_, ?_, ?_, ?_, ?_⟩ <;> (simp [subE, lk, AV.low, C.low, LB.low, tagd, Rec.ds] <;> fail)) ?_
  intro k hk0
  have hcn := tagd_le (r.fields.take k) t; rw [List.length_take] at hcn
  try simp only [Rec.ds, Fld.ds, List.map_cons, List.map_nil]
  refine AXc.seq fun K8 hK8 => ?_
  refine AXc.seq fun K9 hK9 => ?_
  refine AXc.region' fun K10 hK10 => ?_
  refine AXl.qt rfl (by decide : (9:Nat) < 25) (Still.qt (s_move _)) ?_
  refine AXl.qt rfl (by decide : (10:Nat) < 25) (Still.qt (s_move _)) ?_
  refine AXl.qt rfl (by decide : (11:Nat) < 25) (Still.qt (s_icmp _ _ _ _ _ rfl rfl rfl)) ?_
  refine AXl.nm_a2 ?_
  refine AXl.nil ?_
  refine hK10 _ ?_
  clear hK10 K10
  refine Ethen.n ?_
  refine hK9 _ ?_
  clear hK9 K9
  refine AXc.cond rfl (fun hc11 => ?_) (fun hc11 => ?_)
  · try simp only [decide_eq_true_eq, decide_eq_false_iff_not, Bool.not_eq_true', Bool.not_eq_false', Int.not_lt, Int.not_le, ne_eq, Decidable.not_not, bne_iff_ne, beq_iff_eq, Bool.and_eq_true, Bool.or_eq_true, Bool.and_eq_false_iff, Bool.or_eq_false_iff, Bool.not_not, Ax.u8eq] at hc11
    refine AXc.skip ?_
    refine Ethen.n ?_
    refine hK8 _ ?_
    clear hK8 K8
    refine AXc.seq fun K12 hK12 => ?_
    refine AXc.block ?_
    refine AXc.seq fun K13 hK13 => ?_
    refine AXc.region' fun K14 hK14 => ?_
    first
      | refine AXl.qt rfl (by decide : (14:Nat) < 25) (Still.qt (s_field_loc _ _ _ fdT_27_4_a rfl)) ?_
      | refine AXl.qt rfl (by decide : (14:Nat) < 25) (Still.qt (s_field_ptr _ _ _ fdT_27_4_a rfl)) ?_
      | refine AXl.qt rfl (by decide : (14:Nat) < 25) (Still.qt (s_field_row _ _ _ fdT_27_4_a rfl rfl)) ?_
    first
      | refine AXl.qt rfl (by decide : (15:Nat) < 25) (Still.qt (s_load1 _ _ ldT_25_a rfl)) ?_
      | refine AXl.qt rfl (by decide : (15:Nat) < 25) (Still.qt (s_load1_row _ _ ldT_25_a rfl rfl (by first | rfl | exact List.getElem?_eq_getElem (by omega)) rfl)) ?_
    refine AXl.qt rfl (by decide : (16:Nat) < 25) (Still.qt (s_move _)) ?_
    first
      | refine AXl.qt rfl (by decide : (17:Nat) < 25) (Still.qt (s_index _ _ _ slT_25_a (.inl rfl) rfl rfl (by first | omega | (simp only [List.length_map, List.length_cons, List.length_nil, List.length_append, List.length_take, List.length_drop]; omega)) (List.getElem?_eq_getElem (by first | omega | (simp only [List.length_map, List.length_cons, List.length_nil, List.length_append, List.length_take, List.length_drop]; omega))))) ?_
      | refine AXl.qt rfl (by decide : (17:Nat) < 25) (Still.qt (s_index _ _ _ slT_25_a (.inr rfl) rfl rfl (by first | omega | (simp only [List.length_map, List.length_cons, List.length_nil, List.length_append, List.length_take, List.length_drop]; omega)) (List.getElem?_eq_getElem (by first | omega | (simp only [List.length_map, List.length_cons, List.length_nil, List.length_append, List.length_take, List.length_drop]; omega))))) ?_
      | refine AXl.qt rfl (by decide : (17:Nat) < 25) (Still.qt (s_index_own _ _ _ slT_25_a rfl rfl rfl rfl (by first | omega | (simp only [List.length_map, List.length_cons, List.length_nil, List.length_append, List.length_take, List.length_drop]; omega)) (by first | omega | (simp only [List.length_map, List.length_cons, List.length_nil, List.length_append, List.length_take, List.length_drop]; omega)))) ?_
    refine AXl.nm_a2 ?_
    first
      | refine AXl.qt rfl (by decide : (18:Nat) < 25) (Still.qt (s_field_loc _ _ _ fdT_45_0_a rfl)) ?_
      | refine AXl.qt rfl (by decide : (18:Nat) < 25) (Still.qt (s_field_ptr _ _ _ fdT_45_0_a rfl)) ?_
      | refine AXl.qt rfl (by decide : (18:Nat) < 25) (Still.qt (s_field_row _ _ _ fdT_45_0_a rfl rfl)) ?_
    first
      | refine AXl.qt rfl (by decide : (19:Nat) < 25) (Still.qt (s_load1 _ _ ldT_9_a rfl)) ?_
      | refine AXl.qt rfl (by decide : (19:Nat) < 25) (Still.qt (s_load1_row _ _ ldT_9_a rfl rfl (by first | rfl | exact List.getElem?_eq_getElem (by omega)) rfl)) ?_
    refine AXl.qt rfl (by decide : (20:Nat) < 25) (Still.qt (s_move _)) ?_
    refine AXl.qt rfl (by decide : (21:Nat) < 25) (Still.qt (s_scmp _ _ _ _ _ rfl rfl rfl)) ?_
    refine AXl.nm_a2 ?_
    refine AXl.nil ?_
    refine hK14 _ ?_
    clear hK14 K14
    refine Ethen.n ?_
    refine hK13 _ ?_
    clear hK13 K13
    refine AXc.cond rfl (fun hc15 => ?_) (fun hc15 => ?_)
    · try simp only [decide_eq_true_eq, decide_eq_false_iff_not, Bool.not_eq_true', Bool.not_eq_false', Int.not_lt, Int.not_le, ne_eq, Decidable.not_not, bne_iff_ne, beq_iff_eq, Bool.and_eq_true, Bool.or_eq_true, Bool.and_eq_false_iff, Bool.or_eq_false_iff, Bool.not_not, Ax.u8eq] at hc15
      refine AXc.region' fun K16 hK16 => ?_
      refine AXl.qt rfl (by decide : (22:Nat) < 25) (Still.qt (s_move _)) ?_
      refine AXl.qt rfl (by decide : (23:Nat) < 25) (Still.qt (s_iar _ _ _ _ _ rfl rfl rfl (IntWalk.i64_in _ ⟨(by first | omega | (simp only [List.length_map, List.length_cons, List.length_nil, List.length_append, List.length_take, List.length_drop]; omega)), (by first | omega | (simp only [List.length_map, List.length_cons, List.length_nil, List.length_append, List.length_take, List.length_drop]; omega))⟩))) ?_
      refine AXl.qt rfl (by decide : (7:Nat) < 25) (Still.qt (s_assign _)) ?_
      refine AXl.nm_a2 ?_
      refine AXl.nil ?_
      refine hK16 _ ?_
      clear hK16 K16
      refine EinBlock.n ?_
      refine Ethen.n ?_
      refine hK12 _ ?_
      clear hK12 K12
      refine AXc.region' fun K17 hK17 => ?_
      refine AXl.qt rfl (by decide : (12:Nat) < 25) (Still.qt (s_move _)) ?_
      refine AXl.qt rfl (by decide : (13:Nat) < 25) (Still.qt (s_iar _ _ _ _ _ rfl rfl rfl (IntWalk.i64_in _ ⟨(by first | omega | (simp only [List.length_map, List.length_cons, List.length_nil, List.length_append, List.length_take, List.length_drop]; omega)), (by first | omega | (simp only [List.length_map, List.length_cons, List.length_nil, List.length_append, List.length_take, List.length_drop]; omega))⟩))) ?_
      refine AXl.qt rfl (by decide : (8:Nat) < 25) (Still.qt (s_assign _)) ?_
      refine AXl.nm_a2 ?_
      refine AXl.nil ?_
      refine hK17 _ ?_
      clear hK17 K17
      refine Ethen.n ?_
      clear hK5 K5
      have hk : k < r.fields.length := by omega
      have e1 : tagd (r.fields.take (k+1)) t = tagd (r.fields.take k) t + (if r.fields[k].tag = t then 1 else 0) := by rw [take_next hk, tagd_snoc]
      refine ⟨k + 1, by omega, by omega, (by refine ⟨?_, ?_, ?_, ?_, ?_, ?_⟩ <;> (simp [subE, lk, AV.low, C.low, LB.low, e1, Rec.ds, hc15] <;> fail))⟩
    · try simp only [decide_eq_true_eq, decide_eq_false_iff_not, Bool.not_eq_true', Bool.not_eq_false', Int.not_lt, Int.not_le, ne_eq, Decidable.not_not, bne_iff_ne, beq_iff_eq, Bool.and_eq_true, Bool.or_eq_true, Bool.and_eq_false_iff, Bool.or_eq_false_iff, Bool.not_not, Ax.u8eq] at hc15
      refine AXc.skip ?_
      refine EinBlock.n ?_
      refine Ethen.n ?_
      refine hK12 _ ?_
      clear hK12 K12
      refine AXc.region' fun K18 hK18 => ?_
      refine AXl.qt rfl (by decide : (12:Nat) < 25) (Still.qt (s_move _)) ?_
      refine AXl.qt rfl (by decide : (13:Nat) < 25) (Still.qt (s_iar _ _ _ _ _ rfl rfl rfl (IntWalk.i64_in _ ⟨(by first | omega | (simp only [List.length_map, List.length_cons, List.length_nil, List.length_append, List.length_take, List.length_drop]; omega)), (by first | omega | (simp only [List.length_map, List.length_cons, List.length_nil, List.length_append, List.length_take, List.length_drop]; omega))⟩))) ?_
      refine AXl.qt rfl (by decide : (8:Nat) < 25) (Still.qt (s_assign _)) ?_
      refine AXl.nm_a2 ?_
      refine AXl.nil ?_
      refine hK18 _ ?_
      clear hK18 K18
      refine Ethen.n ?_
      clear hK5 K5
      have hk : k < r.fields.length := by omega
      have e1 : tagd (r.fields.take (k+1)) t = tagd (r.fields.take k) t + (if r.fields[k].tag = t then 1 else 0) := by rw [take_next hk, tagd_snoc]
      refine ⟨k + 1, by omega, by omega, (by refine ⟨?_, ?_, ?_, ?_, ?_, ?_⟩ <;> (simp [subE, lk, AV.low, C.low, LB.low, e1, Rec.ds, hc15] <;> fail))⟩
  · try simp only [decide_eq_true_eq, decide_eq_false_iff_not, Bool.not_eq_true', Bool.not_eq_false', Int.not_lt, Int.not_le, ne_eq, Decidable.not_not, bne_iff_ne, beq_iff_eq, Bool.and_eq_true, Bool.or_eq_true, Bool.and_eq_false_iff, Bool.or_eq_false_iff, Bool.not_not, Ax.u8eq] at hc11
    refine AXc.exit ?_
    refine Ethen.e ?_
    clear hK8 K8
    refine Ethen.e ?_
    refine EinBlock.hit ?_
    refine Ethen.n ?_
    refine hK5 _ ?_
    clear hK5 K5
    refine AXc.seq fun K19 hK19 => ?_
    refine AXc.region' fun K20 hK20 => ?_
    refine AXl.qt rfl (by decide : (24:Nat) < 25) (Still.qt (s_move _)) ?_
    refine AXl.qt rfl (by decide : (6:Nat) < 25) (Still.qt (s_assign _)) ?_
    refine AXl.nm_a2 ?_
    refine AXl.nil ?_
    refine hK20 _ ?_
    clear hK20 K20
    refine Ethen.n ?_
    refine hK19 _ ?_
    clear hK19 K19
    refine AXc.ret ?_
    refine Fin.ret rfl rfl ?_
    have : k = n := by omega
    subst this
    rfl
/-- The contract of library libraryref09.Find. -/
theorem c11 {Γ : List (Nat × List D)} (l : List TagRule) (t : Str) (hl : l.length ≤ 1000000) : AFn Tryd.prog Γ 11 [.c (.d (.lst 7 (l.map TagRule.ds))), .c (.d (.str t))] [.agg (getR l t).ds, .d (.bool (findR l t).isSome)] := by
  refine AFn.of_body0 (n := 25) (res := [.cell 4 29, .tmp 5]) Tryd.func11 (by kernel_rfl) rfl Tryd.ntmps11 (by rw [Tryd.results11]) (by simp) ?_
  simp only [envOf, Nat.reduceAdd]
  refine AXc.seq fun K1 hK1 => ?_
  refine AXc.region' fun K2 hK2 => ?_
  refine AXl.alloc zC_29_a (by decide : (4:Nat) < 25) ?_
  refine AXl.qt rfl (by decide : (5:Nat) < 25) (Still.qt (s_assign _)) ?_
  refine AXl.nm_a0 ?_
  refine AXl.nil ?_
  refine hK2 _ ?_
  clear hK2 K2
  refine Ethen.n ?_
  refine hK1 _ ?_
  clear hK1 K1
  refine AXc.seq fun K3 hK3 => ?_
  refine AXc.seq fun K4 hK4 => ?_
  refine AXc.region' fun K5 hK5 => ?_
  refine AXl.qt rfl (by decide : (6:Nat) < 25) (Still.qt (s_assign _)) ?_
  refine AXl.nm_a0 ?_
  refine AXl.nil ?_
  refine hK5 _ ?_
  clear hK5 K5
  refine Ethen.n ?_
  refine hK4 _ ?_
  clear hK4 K4
  refine AXc.block ?_
  refine AXc.loop (S := Nat) (fun k => ⟨[(0, .c (.d (.lst 7 (l.map TagRule.ds)))), (1, .c (.d (.str t))), (4, .c (.loc 0 0)), (6, .c (.d (.int .i64 k)))], [.box 29 (noRule.ds.map C.d)]⟩) (fun k => k ≤ l.length ∧ findR (l.drop k) t = findR l t) (fun k => l.length - k) 0 ⟨by omega, by simp⟩ (by refine ⟨?_, ?_, ?_, ?_, ?_, ?_⟩ <;> (simp [subE, lk, AV.low, C.low, LB.low, noRule, TagRule.ds] <;> fail)) ?_
  rintro k ⟨hk0, hinv⟩
  refine AXc.seq fun K6 hK6 => ?_
  refine AXc.seq fun K7 hK7 => ?_
  refine AXc.region' fun K8 hK8 => ?_
  refine AXl.qt rfl (by decide : (7:Nat) < 25) (Still.qt (s_move _)) ?_
  refine AXl.qt rfl (by decide : (8:Nat) < 25) (Still.qt (s_move _)) ?_
  first
    | refine AXl.qt rfl (by decide : (9:Nat) < 25) (Still.qt (s_len _ _ Tryd.underlying22 rfl)) ?_
    | refine AXl.qt rfl (by decide : (9:Nat) < 25) (Still.qt (s_len_nil _ _ Tryd.underlying22 rfl)) ?_
  refine AXl.qt rfl (by decide : (10:Nat) < 25) (Still.qt (s_icmp _ _ _ _ _ rfl rfl rfl)) ?_
  refine AXl.nm_a0 ?_
  refine AXl.nil ?_
  refine hK8 _ ?_
  clear hK8 K8
  refine Ethen.n ?_
  refine hK7 _ ?_
  clear hK7 K7
  refine AXc.cond rfl (fun hc9 => ?_) (fun hc9 => ?_)
  · try simp only [decide_eq_true_eq, decide_eq_false_iff_not, Bool.not_eq_true', Bool.not_eq_false', Int.not_lt, Int.not_le, ne_eq, Decidable.not_not, bne_iff_ne, beq_iff_eq, Bool.and_eq_true, Bool.or_eq_true, Bool.and_eq_false_iff, Bool.or_eq_false_iff, Bool.not_not, Ax.u8eq] at hc9
    refine AXc.skip ?_
    refine Ethen.n ?_
    refine hK6 _ ?_
    clear hK6 K6
    refine AXc.seq fun K10 hK10 => ?_
    refine AXc.block ?_
    refine AXc.seq fun K11 hK11 => ?_
    refine AXc.region' fun K12 hK12 => ?_
    refine AXl.qt rfl (by decide : (13:Nat) < 25) (Still.qt (s_move _)) ?_
    refine AXl.qt rfl (by decide : (14:Nat) < 25) (Still.qt (s_move _)) ?_
    first
      | refine AXl.qt rfl (by decide : (15:Nat) < 25) (Still.qt (s_index _ _ _ slT_22_a (.inl rfl) rfl rfl (by first | omega | (simp only [List.length_map, List.length_cons, List.length_nil, List.length_append, List.length_take, List.length_drop]; omega)) (List.getElem?_eq_getElem (by first | omega | (simp only [List.length_map, List.length_cons, List.length_nil, List.length_append, List.length_take, List.length_drop]; omega))))) ?_
      | refine AXl.qt rfl (by decide : (15:Nat) < 25) (Still.qt (s_index _ _ _ slT_22_a (.inr rfl) rfl rfl (by first | omega | (simp only [List.length_map, List.length_cons, List.length_nil, List.length_append, List.length_take, List.length_drop]; omega)) (List.getElem?_eq_getElem (by first | omega | (simp only [List.length_map, List.length_cons, List.length_nil, List.length_append, List.length_take, List.length_drop]; omega))))) ?_
      | refine AXl.qt rfl (by decide : (15:Nat) < 25) (Still.qt (s_index_own _ _ _ slT_22_a rfl rfl rfl rfl (by first | omega | (simp only [List.length_map, List.length_cons, List.length_nil, List.length_append, List.length_take, List.length_drop]; omega)) (by first | omega | (simp only [List.length_map, List.length_cons, List.length_nil, List.length_append, List.length_take, List.length_drop]; omega)))) ?_
    refine AXl.nm_a0 ?_
    first
      | refine AXl.qt rfl (by decide : (16:Nat) < 25) (Still.qt (s_field_loc _ _ _ fdT_29_0_a rfl)) ?_
      | refine AXl.qt rfl (by decide : (16:Nat) < 25) (Still.qt (s_field_ptr _ _ _ fdT_29_0_a rfl)) ?_
      | refine AXl.qt rfl (by decide : (16:Nat) < 25) (Still.qt (s_field_row _ _ _ fdT_29_0_a rfl rfl)) ?_
    first
      | refine AXl.qt rfl (by decide : (17:Nat) < 25) (Still.qt (s_load1 _ _ ldT_9_a rfl)) ?_
      | refine AXl.qt rfl (by decide : (17:Nat) < 25) (Still.qt (s_load1_row _ _ ldT_9_a rfl rfl (by first | rfl | exact List.getElem?_eq_getElem (by omega)) rfl)) ?_
    refine AXl.qt rfl (by decide : (18:Nat) < 25) (Still.qt (s_move _)) ?_
    refine AXl.qt rfl (by decide : (19:Nat) < 25) (Still.qt (s_scmp _ _ _ _ _ rfl rfl rfl)) ?_
    refine AXl.nm_a0 ?_
    refine AXl.nil ?_
    refine hK12 _ ?_
    clear hK12 K12
    refine Ethen.n ?_
    refine hK11 _ ?_
    clear hK11 K11
    refine AXc.cond rfl (fun hc13 => ?_) (fun hc13 => ?_)
    · try simp only [decide_eq_true_eq, decide_eq_false_iff_not, Bool.not_eq_true', Bool.not_eq_false', Int.not_lt, Int.not_le, ne_eq, Decidable.not_not, bne_iff_ne, beq_iff_eq, Bool.and_eq_true, Bool.or_eq_true, Bool.and_eq_false_iff, Bool.or_eq_false_iff, Bool.not_not, Ax.u8eq] at hc13
      refine AXc.seq fun K14 hK14 => ?_
      refine AXc.region' fun K15 hK15 => ?_
      refine AXl.qt rfl (by decide : (20:Nat) < 25) (Still.qt (s_move _)) ?_
      refine AXl.qt rfl (by decide : (21:Nat) < 25) (Still.qt (s_move _)) ?_
      first
        | refine AXl.qt rfl (by decide : (22:Nat) < 25) (Still.qt (s_index _ _ _ slT_22_a (.inl rfl) rfl rfl (by first | omega | (simp only [List.length_map, List.length_cons, List.length_nil, List.length_append, List.length_take, List.length_drop]; omega)) (List.getElem?_eq_getElem (by first | omega | (simp only [List.length_map, List.length_cons, List.length_nil, List.length_append, List.length_take, List.length_drop]; omega))))) ?_
        | refine AXl.qt rfl (by decide : (22:Nat) < 25) (Still.qt (s_index _ _ _ slT_22_a (.inr rfl) rfl rfl (by first | omega | (simp only [List.length_map, List.length_cons, List.length_nil, List.length_append, List.length_take, List.length_drop]; omega)) (List.getElem?_eq_getElem (by first | omega | (simp only [List.length_map, List.length_cons, List.length_nil, List.length_append, List.length_take, List.length_drop]; omega))))) ?_
        | refine AXl.qt rfl (by decide : (22:Nat) < 25) (Still.qt (s_index_own _ _ _ slT_22_a rfl rfl rfl rfl (by first | omega | (simp only [List.length_map, List.length_cons, List.length_nil, List.length_append, List.length_take, List.length_drop]; omega)) (by first | omega | (simp only [List.length_map, List.length_cons, List.length_nil, List.length_append, List.length_take, List.length_drop]; omega)))) ?_
      refine AXl.nm_a0 ?_
      first
        | refine AXl.qt rfl (by decide : (23:Nat) < 25) (Still.qt (s_loadN _ _ ldT_29_a rfl (by simp [Problem.ds, TagRule.ds, Fld.ds, Sub.ds, Rec.ds]))) ?_
        | refine AXl.qt rfl (by decide : (23:Nat) < 25) (Still.qt (s_loadN_row _ _ ldT_29_a rfl rfl (by first | rfl | exact List.getElem?_eq_getElem (by omega)) (by simp [Problem.ds, TagRule.ds, Fld.ds, Sub.ds, Rec.ds]))) ?_
      refine AXl.nm_a0 ?_
      first
        | refine AXl.store rfl rfl rfl sz_29_a (by simp [Problem.ds, TagRule.ds, Fld.ds, Sub.ds, Rec.ds]) rfl ?_
        | refine AXl.store_row rfl rfl (by first | rfl | exact List.getElem?_eq_getElem (by omega)) rfl sz_29_a (by simp [Problem.ds, TagRule.ds, Fld.ds, Sub.ds, Rec.ds]) rfl ?_
      refine AXl.qt rfl (by decide : (5:Nat) < 25) (Still.qt (s_assign _)) ?_
      refine AXl.nm_a0 ?_
      refine AXl.nil ?_
      refine hK15 _ ?_
      clear hK15 K15
      refine Ethen.n ?_
      refine hK14 _ ?_
      clear hK14 K14
      refine AXc.ret ?_
      refine EinBlock.r ?_
      refine Ethen.r ?_
      clear hK10 K10
      refine Ethen.r ?_
      refine EinBlock.r ?_
      refine Ethen.r ?_
      clear hK3 K3
      refine Fin.ret rfl rfl ?_
      first
        | (have hk : k < l.length := by omega
           unfold getR; rw [← hinv, drop_cons hk, findR, List.find?_cons]; simp_all [TagRule.ds]; done)
        | (unfold getR; rw [← hinv, drop_end (by omega)]; rfl)
    · try simp only [decide_eq_true_eq, decide_eq_false_iff_not, Bool.not_eq_true', Bool.not_eq_false', Int.not_lt, Int.not_le, ne_eq, Decidable.not_not, bne_iff_ne, beq_iff_eq, Bool.and_eq_true, Bool.or_eq_true, Bool.and_eq_false_iff, Bool.or_eq_false_iff, Bool.not_not, Ax.u8eq] at hc13
      refine AXc.skip ?_
      refine EinBlock.n ?_
      refine Ethen.n ?_
      refine hK10 _ ?_
      clear hK10 K10
      refine AXc.region' fun K16 hK16 => ?_
      refine AXl.qt rfl (by decide : (11:Nat) < 25) (Still.qt (s_move _)) ?_
      refine AXl.qt rfl (by decide : (12:Nat) < 25) (Still.qt (s_iar _ _ _ _ _ rfl rfl rfl (IntWalk.i64_in _ ⟨(by first | omega | (simp only [List.length_map, List.length_cons, List.length_nil, List.length_append, List.length_take, List.length_drop]; omega)), (by first | omega | (simp only [List.length_map, List.length_cons, List.length_nil, List.length_append, List.length_take, List.length_drop]; omega))⟩))) ?_
      refine AXl.qt rfl (by decide : (6:Nat) < 25) (Still.qt (s_assign _)) ?_
      refine AXl.nm_a0 ?_
      refine AXl.nil ?_
      refine hK16 _ ?_
      clear hK16 K16
      refine Ethen.n ?_
      clear hK3 K3
      have hk : k < l.length := by omega
      refine ⟨k + 1, ⟨by omega, ?_⟩, by omega, (by refine ⟨?_, ?_, ?_, ?_, ?_, ?_⟩ <;> (simp [subE, lk, AV.low, C.low, LB.low, noRule, TagRule.ds] <;> fail))⟩
      rw [drop_cons hk] at hinv; simp only [findR, List.find?_cons, beq_false_of_ne hc13] at hinv ⊢
      exact hinv
  · try simp only [decide_eq_true_eq, decide_eq_false_iff_not, Bool.not_eq_true', Bool.not_eq_false', Int.not_lt, Int.not_le, ne_eq, Decidable.not_not, bne_iff_ne, beq_iff_eq, Bool.and_eq_true, Bool.or_eq_true, Bool.and_eq_false_iff, Bool.or_eq_false_iff, Bool.not_not, Ax.u8eq] at hc9
    refine AXc.exit ?_
    refine Ethen.e ?_
    clear hK6 K6
    refine Ethen.e ?_
    refine EinBlock.hit ?_
    refine Ethen.n ?_
    refine hK3 _ ?_
    clear hK3 K3
    refine AXc.seq fun K17 hK17 => ?_
    refine AXc.region' fun K18 hK18 => ?_
    refine AXl.qt rfl (by decide : (24:Nat) < 25) (Still.qt (s_build _ _ plT_29_a zC_29_a rfl)) ?_
    refine AXl.nm_a0 ?_
    first
      | refine AXl.store rfl rfl rfl sz_29_a (by simp [Problem.ds, TagRule.ds, Fld.ds, Sub.ds, Rec.ds]) rfl ?_
      | refine AXl.store_row rfl rfl (by first | rfl | exact List.getElem?_eq_getElem (by omega)) rfl sz_29_a (by simp [Problem.ds, TagRule.ds, Fld.ds, Sub.ds, Rec.ds]) rfl ?_
    refine AXl.qt rfl (by decide : (5:Nat) < 25) (Still.qt (s_assign _)) ?_
    refine AXl.nm_a0 ?_
    refine AXl.nil ?_
    refine hK18 _ ?_
    clear hK18 K18
    refine Ethen.n ?_
    refine hK17 _ ?_
    clear hK17 K17
    refine AXc.ret ?_
    refine Fin.ret rfl rfl ?_
    first
      | (have hk : k < l.length := by omega
         unfold getR; rw [← hinv, drop_cons hk, findR, List.find?_cons]; simp_all [TagRule.ds]; done)
      | (unfold getR; rw [← hinv, drop_end (by omega)]; rfl)
/-- The contract of library libraryref09.SameProblems. -/
theorem c14 {Γ : List (Nat × List D)} (a b : List Problem) (hl : a.length ≤ 1000000) : AFn Tryd.prog Γ 14 [.c (.d (.lst 4 (a.map Problem.ds))), .c (.d (.lst 4 (b.map Problem.ds)))] [.d (.bool (decide (a = b)))] := by
  refine AFn.of_body0 (n := 26) (res := [.tmp 4]) Tryd.func14 (by kernel_rfl) rfl Tryd.ntmps14 (by rw [Tryd.results14]) (by simp) ?_
  simp only [envOf, Nat.reduceAdd]
  refine AXc.seq fun K1 hK1 => ?_
  refine AXc.region' fun K2 hK2 => ?_
  refine AXl.qt rfl (by decide : (4:Nat) < 26) (Still.qt (s_assign _)) ?_
  refine AXl.nm_a0 ?_
  refine AXl.nil ?_
  refine hK2 _ ?_
  clear hK2 K2
  refine Ethen.n ?_
  refine hK1 _ ?_
  clear hK1 K1
  refine AXc.seq fun K3 hK3 => ?_
  refine AXc.seq fun K4 hK4 => ?_
  refine AXc.region' fun K5 hK5 => ?_
  refine AXl.qt rfl (by decide : (6:Nat) < 26) (Still.qt (s_move _)) ?_
  first
    | refine AXl.qt rfl (by decide : (7:Nat) < 26) (Still.qt (s_len _ _ Tryd.underlying35 rfl)) ?_
    | refine AXl.qt rfl (by decide : (7:Nat) < 26) (Still.qt (s_len_nil _ _ Tryd.underlying35 rfl)) ?_
  refine AXl.qt rfl (by decide : (8:Nat) < 26) (Still.qt (s_move _)) ?_
  first
    | refine AXl.qt rfl (by decide : (9:Nat) < 26) (Still.qt (s_len _ _ Tryd.underlying35 rfl)) ?_
    | refine AXl.qt rfl (by decide : (9:Nat) < 26) (Still.qt (s_len_nil _ _ Tryd.underlying35 rfl)) ?_
  refine AXl.qt rfl (by decide : (10:Nat) < 26) (Still.qt (s_icmp _ _ _ _ _ rfl rfl rfl)) ?_
  refine AXl.nm_a0 ?_
  refine AXl.nil ?_
  refine hK5 _ ?_
  clear hK5 K5
  refine Ethen.n ?_
  refine hK4 _ ?_
  clear hK4 K4
  refine AXc.cond rfl (fun hc6 => ?_) (fun hc6 => ?_)
  · try simp only [decide_eq_true_eq, decide_eq_false_iff_not, Bool.not_eq_true', Bool.not_eq_false', Int.not_lt, Int.not_le, ne_eq, Decidable.not_not, bne_iff_ne, beq_iff_eq, Bool.and_eq_true, Bool.or_eq_true, Bool.and_eq_false_iff, Bool.or_eq_false_iff, Bool.not_not, Ax.u8eq] at hc6
    refine AXc.seq fun K7 hK7 => ?_
    refine AXc.region' fun K8 hK8 => ?_
    refine AXl.qt rfl (by decide : (4:Nat) < 26) (Still.qt (s_assign _)) ?_
    refine AXl.nm_a0 ?_
    refine AXl.nil ?_
    refine hK8 _ ?_
    clear hK8 K8
    refine Ethen.n ?_
    refine hK7 _ ?_
    clear hK7 K7
    refine AXc.ret ?_
    refine Ethen.r ?_
    clear hK3 K3
    refine Fin.ret rfl rfl ?_
    first
      | (have hk : k < a.length := by omega
         refine congrArg (fun x => [RV.d (.bool x)]) (decide_eq_false ?_).symm
         intro e; subst e; simp_all; done)
      | (refine congrArg (fun x => [RV.d (.bool x)]) (decide_eq_true ?_).symm
         rw [List.take_of_length_le (by omega), List.take_of_length_le (by omega)] at hinv; exact hinv)
      | (refine congrArg (fun x => [RV.d (.bool x)]) (decide_eq_false ?_).symm
         intro e; subst e; simp_all; done)
  · try simp only [decide_eq_true_eq, decide_eq_false_iff_not, Bool.not_eq_true', Bool.not_eq_false', Int.not_lt, Int.not_le, ne_eq, Decidable.not_not, bne_iff_ne, beq_iff_eq, Bool.and_eq_true, Bool.or_eq_true, Bool.and_eq_false_iff, Bool.or_eq_false_iff, Bool.not_not, Ax.u8eq] at hc6
    refine AXc.skip ?_
    refine Ethen.n ?_
    refine hK3 _ ?_
    clear hK3 K3
    refine AXc.seq fun K9 hK9 => ?_
    refine AXc.seq fun K10 hK10 => ?_
    refine AXc.region' fun K11 hK11 => ?_
    refine AXl.qt rfl (by decide : (5:Nat) < 26) (Still.qt (s_assign _)) ?_
    refine AXl.nm_a0 ?_
    refine AXl.nil ?_
    refine hK11 _ ?_
    clear hK11 K11
    refine Ethen.n ?_
    refine hK10 _ ?_
    clear hK10 K10
    refine AXc.block ?_
    refine AXc.loop (S := Nat) (fun k => ⟨[(0, .c (.d (.lst 4 (a.map Problem.ds)))), (1, .c (.d (.lst 4 (b.map Problem.ds)))), (5, .c (.d (.int .i64 k)))], []⟩) (fun k => k ≤ a.length ∧ a.take k = b.take k) (fun k => a.length - k) 0 ⟨by omega, by simp⟩ (by refine ⟨?_, ?_, ?_, ?_, ?_, ?_⟩ <;> (simp [subE, lk, AV.low, C.low, LB.low] <;> fail)) ?_
    rintro k ⟨hk0, hinv⟩
    refine AXc.seq fun K12 hK12 => ?_
    refine AXc.seq fun K13 hK13 => ?_
    refine AXc.region' fun K14 hK14 => ?_
    refine AXl.qt rfl (by decide : (11:Nat) < 26) (Still.qt (s_move _)) ?_
    refine AXl.qt rfl (by decide : (12:Nat) < 26) (Still.qt (s_move _)) ?_
    first
      | refine AXl.qt rfl (by decide : (13:Nat) < 26) (Still.qt (s_len _ _ Tryd.underlying35 rfl)) ?_
      | refine AXl.qt rfl (by decide : (13:Nat) < 26) (Still.qt (s_len_nil _ _ Tryd.underlying35 rfl)) ?_
    refine AXl.qt rfl (by decide : (14:Nat) < 26) (Still.qt (s_icmp _ _ _ _ _ rfl rfl rfl)) ?_
    refine AXl.nm_a0 ?_
    refine AXl.nil ?_
    refine hK14 _ ?_
    clear hK14 K14
    refine Ethen.n ?_
    refine hK13 _ ?_
    clear hK13 K13
    refine AXc.cond rfl (fun hc15 => ?_) (fun hc15 => ?_)
    · try simp only [decide_eq_true_eq, decide_eq_false_iff_not, Bool.not_eq_true', Bool.not_eq_false', Int.not_lt, Int.not_le, ne_eq, Decidable.not_not, bne_iff_ne, beq_iff_eq, Bool.and_eq_true, Bool.or_eq_true, Bool.and_eq_false_iff, Bool.or_eq_false_iff, Bool.not_not, Ax.u8eq] at hc15
      refine AXc.skip ?_
      refine Ethen.n ?_
      refine hK12 _ ?_
      clear hK12 K12
      refine AXc.seq fun K16 hK16 => ?_
      refine AXc.block ?_
      refine AXc.seq fun K17 hK17 => ?_
      refine AXc.draw' mixed_a 9 (by kernel_rfl) fun K18 hK18 => ?_
      simp only [List.take_succ_cons, List.take_zero, List.take_nil, List.drop_succ_cons, List.drop_zero, List.drop_nil]
      refine AXd.op rfl (Still.qt (s_move _)) ?_
      refine AXd.op rfl (Still.qt (s_move _)) ?_
      first
        | refine AXd.op rfl (Still.qt (s_index _ _ _ slT_35_a (.inl rfl) rfl rfl (by first | omega | (simp only [List.length_map, List.length_cons, List.length_nil, List.length_append, List.length_take, List.length_drop]; omega)) (List.getElem?_eq_getElem (by first | omega | (simp only [List.length_map, List.length_cons, List.length_nil, List.length_append, List.length_take, List.length_drop]; omega))))) ?_
        | refine AXd.op rfl (Still.qt (s_index _ _ _ slT_35_a (.inr rfl) rfl rfl (by first | omega | (simp only [List.length_map, List.length_cons, List.length_nil, List.length_append, List.length_take, List.length_drop]; omega)) (List.getElem?_eq_getElem (by first | omega | (simp only [List.length_map, List.length_cons, List.length_nil, List.length_append, List.length_take, List.length_drop]; omega))))) ?_
        | refine AXd.op rfl (Still.qt (s_index_own _ _ _ slT_35_a rfl rfl rfl rfl (by first | omega | (simp only [List.length_map, List.length_cons, List.length_nil, List.length_append, List.length_take, List.length_drop]; omega)) (by first | omega | (simp only [List.length_map, List.length_cons, List.length_nil, List.length_append, List.length_take, List.length_drop]; omega)))) ?_
      refine AXd.nm_a0 ?_
      first
        | refine AXd.op rfl (Still.qt (s_loadN _ _ ldT_41_a rfl (by simp [Problem.ds, TagRule.ds, Fld.ds, Sub.ds, Rec.ds]))) ?_
        | refine AXd.op rfl (Still.qt (s_loadN_row _ _ ldT_41_a rfl rfl (by first | rfl | exact List.getElem?_eq_getElem (by omega)) (by simp [Problem.ds, TagRule.ds, Fld.ds, Sub.ds, Rec.ds]))) ?_
      refine AXd.op rfl (Still.qt (s_move _)) ?_
      refine AXd.op rfl (Still.qt (s_move _)) ?_
      first
        | refine AXd.op rfl (Still.qt (s_index _ _ _ slT_35_a (.inl rfl) rfl rfl (by first | omega | (simp only [List.length_map, List.length_cons, List.length_nil, List.length_append, List.length_take, List.length_drop]; omega)) (List.getElem?_eq_getElem (by first | omega | (simp only [List.length_map, List.length_cons, List.length_nil, List.length_append, List.length_take, List.length_drop]; omega))))) ?_
        | refine AXd.op rfl (Still.qt (s_index _ _ _ slT_35_a (.inr rfl) rfl rfl (by first | omega | (simp only [List.length_map, List.length_cons, List.length_nil, List.length_append, List.length_take, List.length_drop]; omega)) (List.getElem?_eq_getElem (by first | omega | (simp only [List.length_map, List.length_cons, List.length_nil, List.length_append, List.length_take, List.length_drop]; omega))))) ?_
        | refine AXd.op rfl (Still.qt (s_index_own _ _ _ slT_35_a rfl rfl rfl rfl (by first | omega | (simp only [List.length_map, List.length_cons, List.length_nil, List.length_append, List.length_take, List.length_drop]; omega)) (by first | omega | (simp only [List.length_map, List.length_cons, List.length_nil, List.length_append, List.length_take, List.length_drop]; omega)))) ?_
      refine AXd.nm_a0 ?_
      first
        | refine AXd.op rfl (Still.qt (s_loadN _ _ ldT_41_a rfl (by simp [Problem.ds, TagRule.ds, Fld.ds, Sub.ds, Rec.ds]))) ?_
        | refine AXd.op rfl (Still.qt (s_loadN_row _ _ ldT_41_a rfl rfl (by first | rfl | exact List.getElem?_eq_getElem (by omega)) (by simp [Problem.ds, TagRule.ds, Fld.ds, Sub.ds, Rec.ds]))) ?_
      refine AXd.op rfl (Still.qt (s_struct' _ _ _ _ _ eqT_41_a rfl rfl (by first | rfl | exact toDs_map _) (by first | rfl | exact toDs_map _) rfl (eqP _ _) rfl)) ?_
      refine AXd.nm_a0 ?_
      refine AXd.nil ?_
      refine AXl.nil ?_
      refine hK18 _ ?_
      clear hK18 K18
      refine Ethen.n ?_
      refine hK17 _ ?_
      clear hK17 K17
      refine AXc.cond rfl (fun hc19 => ?_) (fun hc19 => ?_)
      · try simp only [decide_eq_true_eq, decide_eq_false_iff_not, Bool.not_eq_true', Bool.not_eq_false', Int.not_lt, Int.not_le, ne_eq, Decidable.not_not, bne_iff_ne, beq_iff_eq, Bool.and_eq_true, Bool.or_eq_true, Bool.and_eq_false_iff, Bool.or_eq_false_iff, Bool.not_not, Ax.u8eq] at hc19
        refine AXc.seq fun K20 hK20 => ?_
        refine AXc.region' fun K21 hK21 => ?_
        refine AXl.qt rfl (by decide : (4:Nat) < 26) (Still.qt (s_assign _)) ?_
        refine AXl.nm_a0 ?_
        refine AXl.nil ?_
        refine hK21 _ ?_
        clear hK21 K21
        refine Ethen.n ?_
        refine hK20 _ ?_
        clear hK20 K20
        refine AXc.ret ?_
        refine EinBlock.r ?_
        refine Ethen.r ?_
        clear hK16 K16
        refine Ethen.r ?_
        refine EinBlock.r ?_
        refine Ethen.r ?_
        clear hK9 K9
        refine Fin.ret rfl rfl ?_
        first
          | (have hk : k < a.length := by omega
             refine congrArg (fun x => [RV.d (.bool x)]) (decide_eq_false ?_).symm
             intro e; subst e; simp_all; done)
          | (refine congrArg (fun x => [RV.d (.bool x)]) (decide_eq_true ?_).symm
             rw [List.take_of_length_le (by omega), List.take_of_length_le (by omega)] at hinv; exact hinv)
          | (refine congrArg (fun x => [RV.d (.bool x)]) (decide_eq_false ?_).symm
             intro e; subst e; simp_all; done)
      · try simp only [decide_eq_true_eq, decide_eq_false_iff_not, Bool.not_eq_true', Bool.not_eq_false', Int.not_lt, Int.not_le, ne_eq, Decidable.not_not, bne_iff_ne, beq_iff_eq, Bool.and_eq_true, Bool.or_eq_true, Bool.and_eq_false_iff, Bool.or_eq_false_iff, Bool.not_not, Ax.u8eq] at hc19
        refine AXc.skip ?_
        refine EinBlock.n ?_
        refine Ethen.n ?_
        refine hK16 _ ?_
        clear hK16 K16
        refine AXc.region' fun K22 hK22 => ?_
        refine AXl.qt rfl (by decide : (15:Nat) < 26) (Still.qt (s_move _)) ?_
        refine AXl.qt rfl (by decide : (16:Nat) < 26) (Still.qt (s_iar _ _ _ _ _ rfl rfl rfl (IntWalk.i64_in _ ⟨(by first | omega | (simp only [List.length_map, List.length_cons, List.length_nil, List.length_append, List.length_take, List.length_drop]; omega)), (by first | omega | (simp only [List.length_map, List.length_cons, List.length_nil, List.length_append, List.length_take, List.length_drop]; omega))⟩))) ?_
        refine AXl.qt rfl (by decide : (5:Nat) < 26) (Still.qt (s_assign _)) ?_
        refine AXl.nm_a0 ?_
        refine AXl.nil ?_
        refine hK22 _ ?_
        clear hK22 K22
        refine Ethen.n ?_
        clear hK9 K9
        have hk : k < a.length := by omega
        refine ⟨k + 1, ⟨by omega, ?_⟩, by omega, (by refine ⟨?_, ?_, ?_, ?_, ?_, ?_⟩ <;> (simp [subE, lk, AV.low, C.low, LB.low] <;> fail))⟩
        rw [take_next hk, take_next (by omega), hinv]
        simp_all
    · try simp only [decide_eq_true_eq, decide_eq_false_iff_not, Bool.not_eq_true', Bool.not_eq_false', Int.not_lt, Int.not_le, ne_eq, Decidable.not_not, bne_iff_ne, beq_iff_eq, Bool.and_eq_true, Bool.or_eq_true, Bool.and_eq_false_iff, Bool.or_eq_false_iff, Bool.not_not, Ax.u8eq] at hc15
      refine AXc.exit ?_
      refine Ethen.e ?_
      clear hK12 K12
      refine Ethen.e ?_
      refine EinBlock.hit ?_
      refine Ethen.n ?_
      refine hK9 _ ?_
      clear hK9 K9
      refine AXc.seq fun K23 hK23 => ?_
      refine AXc.region' fun K24 hK24 => ?_
      refine AXl.qt rfl (by decide : (4:Nat) < 26) (Still.qt (s_assign _)) ?_
      refine AXl.nm_a0 ?_
      refine AXl.nil ?_
      refine hK24 _ ?_
      clear hK24 K24
      refine Ethen.n ?_
      refine hK23 _ ?_
      clear hK23 K23
      refine AXc.ret ?_
      refine Fin.ret rfl rfl ?_
      first
        | (have hk : k < a.length := by omega
           refine congrArg (fun x => [RV.d (.bool x)]) (decide_eq_false ?_).symm
           intro e; subst e; simp_all; done)
        | (refine congrArg (fun x => [RV.d (.bool x)]) (decide_eq_true ?_).symm
           rw [List.take_of_length_le (by omega), List.take_of_length_le (by omega)] at hinv; exact hinv)
        | (refine congrArg (fun x => [RV.d (.bool x)]) (decide_eq_false ?_).symm
           intro e; subst e; simp_all; done)
end Go.Proofs
