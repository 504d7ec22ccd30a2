/- Part of a proof about this program; no condition of its own. -/
import Derived.Test.YtjaooadhjmlhnaaDoorRDc
import Derived.Test.YtjaooadhjmlhnaaDoorRWa
import Derived.Test.YtjaooadhjmlhnaaDoorProg
set_option linter.all false
namespace Go.Proofs
open Go Go.Ax Go.Rl
theorem slT_22_b : slT Tryd.prog 22 = some (29, 7) := by kernel_rfl
theorem ldT_29_b : ldT Tryd.prog 29 = some (some 7) := by kernel_rfl
theorem slT_25_b : slT Tryd.prog 25 = some (45, 4) := by kernel_rfl
theorem ldT_45_b : ldT Tryd.prog 45 = some (some 4) := by kernel_rfl
theorem slT_43_b : slT Tryd.prog 43 = some (55, 2) := by kernel_rfl
theorem ldT_55_b : ldT Tryd.prog 55 = some (some 2) := by kernel_rfl
theorem fdT_29_0_b : fdT Tryd.prog 29 0 = some 0 := by kernel_rfl
theorem ldT_9_b : ldT Tryd.prog 9 = some none := by kernel_rfl
theorem fdT_45_0_b : fdT Tryd.prog 45 0 = some 0 := by kernel_rfl
theorem fdT_55_0_b : fdT Tryd.prog 55 0 = some 0 := by kernel_rfl
theorem ldT_5_b : ldT Tryd.prog 5 = some none := by kernel_rfl
theorem zC_29_b : zeroC Tryd.prog 29 = some [.d (.str []), .d (.bool false), .d (.bool false), .d (.str []), .d (.str []), .d (.str []), .d (.int .i64 0)] := by kernel_rfl
theorem plT_29_b : plT Tryd.prog 29 = some [(0, 1), (1, 1), (2, 1), (3, 1), (4, 1), (5, 1), (6, 1)] := by kernel_rfl
theorem sz_29_b : (Tryd.prog.info? 29).map (·.size) = some 7 := by kernel_rfl
theorem AXl.nm_b0 {P : Program} {pm : Pm} {ops : Array Oper} {rest : List Oper} {st st' : St} {K : St → Prop} (hk : AXl P pm ops rest st' K) (he : st = st' := by first | (simp only [St.put, putE, U, del, lk, ev, cAV, lkG, rsAV, rvAV, ↓reduceIte, Nat.reduceEqDiff, Nat.reduceAdd, Nat.reduceMul, List.length_map, List.length_cons, List.length_nil, List.getElem_map, Int.toNat_natCast, List.cons_append, List.nil_append, List.set_cons_zero, List.set_cons_succ, splice, List.take_succ_cons, List.take_zero, List.drop_succ_cons, List.drop_zero, Nat.zero_add, Nat.add_zero, List.map_cons, List.map_nil, List.take_nil, List.drop_nil, List.append_nil]; done) | (simp only [St.put, putE, U, del, lk, ev, cAV, lkG, rsAV, rvAV, ↓reduceIte, Nat.reduceEqDiff, Nat.reduceAdd, Nat.reduceMul, List.length_map, List.length_cons, List.length_nil, List.getElem_map, Int.toNat_natCast, List.cons_append, List.nil_append, List.set_cons_zero, List.set_cons_succ, splice, List.take_succ_cons, List.take_zero, List.drop_succ_cons, List.drop_zero, Nat.zero_add, Nat.add_zero, List.map_cons, List.map_nil, List.take_nil, List.drop_nil, List.append_nil]; rfl) | rfl) : AXl P pm ops rest st K := he ▸ hk
theorem AXd.nm_b0 {P : Program} {pm : Pm} {h : List LB} {ops : Array Oper} {pre : List Oper} {ρ ρ' : List (Nat × AV)} {Kd : List (Nat × AV) → Prop} (hk : AXd P pm h ops pre ρ' Kd) (he : ρ = ρ' := by first | (simp only [St.put, putE, U, del, lk, ev, cAV, lkG, rsAV, rvAV, ↓reduceIte, Nat.reduceEqDiff, Nat.reduceAdd, Nat.reduceMul, List.length_map, List.length_cons, List.length_nil, List.getElem_map, Int.toNat_natCast, List.cons_append, List.nil_append, List.set_cons_zero, List.set_cons_succ, splice, List.take_succ_cons, List.take_zero, List.drop_succ_cons, List.drop_zero, Nat.zero_add, Nat.add_zero, List.map_cons, List.map_nil, List.take_nil, List.drop_nil, List.append_nil]; done) | (simp only [St.put, putE, U, del, lk, ev, cAV, lkG, rsAV, rvAV, ↓reduceIte, Nat.reduceEqDiff, Nat.reduceAdd, Nat.reduceMul, List.length_map, List.length_cons, List.length_nil, List.getElem_map, Int.toNat_natCast, List.cons_append, List.nil_append, List.set_cons_zero, List.set_cons_succ, splice, List.take_succ_cons, List.take_zero, List.drop_succ_cons, List.drop_zero, Nat.zero_add, Nat.add_zero, List.map_cons, List.map_nil, List.take_nil, List.drop_nil, List.append_nil]; rfl) | rfl) : AXd P pm h ops pre ρ Kd := he ▸ hk
theorem AXl.nm_b1 {P : Program} {pm : Pm} {ops : Array Oper} {rest : List Oper} {st st' : St} {K : St → Prop} (hk : AXl P pm ops rest st' K) (he : st = st' := by first | (simp only [St.put, putE, U, del, lk, ev, cAV, lkG, rsAV, rvAV, ↓reduceIte, Nat.reduceEqDiff, Nat.reduceAdd, Nat.reduceMul, List.length_map, List.length_cons, List.length_nil, List.getElem_map, Int.toNat_natCast, List.cons_append, List.nil_append, List.set_cons_zero, List.set_cons_succ, splice, List.take_succ_cons, List.take_zero, List.drop_succ_cons, List.drop_zero, Nat.zero_add, Nat.add_zero, List.map_cons, List.map_nil, List.take_nil, List.drop_nil, List.append_nil, TagRule.ds]; done) | (simp only [St.put, putE, U, del, lk, ev, cAV, lkG, rsAV, rvAV, ↓reduceIte, Nat.reduceEqDiff, Nat.reduceAdd, Nat.reduceMul, List.length_map, List.length_cons, List.length_nil, List.getElem_map, Int.toNat_natCast, List.cons_append, List.nil_append, List.set_cons_zero, List.set_cons_succ, splice, List.take_succ_cons, List.take_zero, List.drop_succ_cons, List.drop_zero, Nat.zero_add, Nat.add_zero, List.map_cons, List.map_nil, List.take_nil, List.drop_nil, List.append_nil, TagRule.ds]; rfl) | rfl) : AXl P pm ops rest st K := he ▸ hk
theorem AXd.nm_b1 {P : Program} {pm : Pm} {h : List LB} {ops : Array Oper} {pre : List Oper} {ρ ρ' : List (Nat × AV)} {Kd : List (Nat × AV) → Prop} (hk : AXd P pm h ops pre ρ' Kd) (he : ρ = ρ' := by first | (simp only [St.put, putE, U, del, lk, ev, cAV, lkG, rsAV, rvAV, ↓reduceIte, Nat.reduceEqDiff, Nat.reduceAdd, Nat.reduceMul, List.length_map, List.length_cons, List.length_nil, List.getElem_map, Int.toNat_natCast, List.cons_append, List.nil_append, List.set_cons_zero, List.set_cons_succ, splice, List.take_succ_cons, List.take_zero, List.drop_succ_cons, List.drop_zero, Nat.zero_add, Nat.add_zero, List.map_cons, List.map_nil, List.take_nil, List.drop_nil, List.append_nil, TagRule.ds]; done) | (simp only [St.put, putE, U, del, lk, ev, cAV, lkG, rsAV, rvAV, ↓reduceIte, Nat.reduceEqDiff, Nat.reduceAdd, Nat.reduceMul, List.length_map, List.length_cons, List.length_nil, List.getElem_map, Int.toNat_natCast, List.cons_append, List.nil_append, List.set_cons_zero, List.set_cons_succ, splice, List.take_succ_cons, List.take_zero, List.drop_succ_cons, List.drop_zero, Nat.zero_add, Nat.add_zero, List.map_cons, List.map_nil, List.take_nil, List.drop_nil, List.append_nil, TagRule.ds]; rfl) | rfl) : AXd P pm h ops pre ρ Kd := he ▸ hk
theorem AXl.nm_b2 {P : Program} {pm : Pm} {ops : Array Oper} {rest : List Oper} {st st' : St} {K : St → Prop} (hk : AXl P pm ops rest st' K) (he : st = st' := by first | (simp only [St.put, putE, U, del, lk, ev, cAV, lkG, rsAV, rvAV, ↓reduceIte, Nat.reduceEqDiff, Nat.reduceAdd, Nat.reduceMul, List.length_map, List.length_cons, List.length_nil, List.getElem_map, Int.toNat_natCast, List.cons_append, List.nil_append, List.set_cons_zero, List.set_cons_succ, splice, List.take_succ_cons, List.take_zero, List.drop_succ_cons, List.drop_zero, Nat.zero_add, Nat.add_zero, List.map_cons, List.map_nil, List.take_nil, List.drop_nil, List.append_nil, Fld.ds]; done) | (simp only [St.put, putE, U, del, lk, ev, cAV, lkG, rsAV, rvAV, ↓reduceIte, Nat.reduceEqDiff, Nat.reduceAdd, Nat.reduceMul, List.length_map, List.length_cons, List.length_nil, List.getElem_map, Int.toNat_natCast, List.cons_append, List.nil_append, List.set_cons_zero, List.set_cons_succ, splice, List.take_succ_cons, List.take_zero, List.drop_succ_cons, List.drop_zero, Nat.zero_add, Nat.add_zero, List.map_cons, List.map_nil, List.take_nil, List.drop_nil, List.append_nil, Fld.ds]; rfl) | rfl) : AXl P pm ops rest st K := he ▸ hk
theorem AXd.nm_b2 {P : Program} {pm : Pm} {h : List LB} {ops : Array Oper} {pre : List Oper} {ρ ρ' : List (Nat × AV)} {Kd : List (Nat × AV) → Prop} (hk : AXd P pm h ops pre ρ' Kd) (he : ρ = ρ' := by first | (simp only [St.put, putE, U, del, lk, ev, cAV, lkG, rsAV, rvAV, ↓reduceIte, Nat.reduceEqDiff, Nat.reduceAdd, Nat.reduceMul, List.length_map, List.length_cons, List.length_nil, List.getElem_map, Int.toNat_natCast, List.cons_append, List.nil_append, List.set_cons_zero, List.set_cons_succ, splice, List.take_succ_cons, List.take_zero, List.drop_succ_cons, List.drop_zero, Nat.zero_add, Nat.add_zero, List.map_cons, List.map_nil, List.take_nil, List.drop_nil, List.append_nil, Fld.ds]; done) | (simp only [St.put, putE, U, del, lk, ev, cAV, lkG, rsAV, rvAV, ↓reduceIte, Nat.reduceEqDiff, Nat.reduceAdd, Nat.reduceMul, List.length_map, List.length_cons, List.length_nil, List.getElem_map, Int.toNat_natCast, List.cons_append, List.nil_append, List.set_cons_zero, List.set_cons_succ, splice, List.take_succ_cons, List.take_zero, List.drop_succ_cons, List.drop_zero, Nat.zero_add, Nat.add_zero, List.map_cons, List.map_nil, List.take_nil, List.drop_nil, List.append_nil, Fld.ds]; rfl) | rfl) : AXd P pm h ops pre ρ Kd := he ▸ hk
theorem AXl.nm_b3 {P : Program} {pm : Pm} {ops : Array Oper} {rest : List Oper} {st st' : St} {K : St → Prop} (hk : AXl P pm ops rest st' K) (he : st = st' := by first | (simp only [St.put, putE, U, del, lk, ev, cAV, lkG, rsAV, rvAV, ↓reduceIte, Nat.reduceEqDiff, Nat.reduceAdd, Nat.reduceMul, List.length_map, List.length_cons, List.length_nil, List.getElem_map, Int.toNat_natCast, List.cons_append, List.nil_append, List.set_cons_zero, List.set_cons_succ, splice, List.take_succ_cons, List.take_zero, List.drop_succ_cons, List.drop_zero, Nat.zero_add, Nat.add_zero, List.map_cons, List.map_nil, List.take_nil, List.drop_nil, List.append_nil, Sub.ds]; done) | (simp only [St.put, putE, U, del, lk, ev, cAV, lkG, rsAV, rvAV, ↓reduceIte, Nat.reduceEqDiff, Nat.reduceAdd, Nat.reduceMul, List.length_map, List.length_cons, List.length_nil, List.getElem_map, Int.toNat_natCast, List.cons_append, List.nil_append, List.set_cons_zero, List.set_cons_succ, splice, List.take_succ_cons, List.take_zero, List.drop_succ_cons, List.drop_zero, Nat.zero_add, Nat.add_zero, List.map_cons, List.map_nil, List.take_nil, List.drop_nil, List.append_nil, Sub.ds]; rfl) | rfl) : AXl P pm ops rest st K := he ▸ hk
theorem AXd.nm_b3 {P : Program} {pm : Pm} {h : List LB} {ops : Array Oper} {pre : List Oper} {ρ ρ' : List (Nat × AV)} {Kd : List (Nat × AV) → Prop} (hk : AXd P pm h ops pre ρ' Kd) (he : ρ = ρ' := by first | (simp only [St.put, putE, U, del, lk, ev, cAV, lkG, rsAV, rvAV, ↓reduceIte, Nat.reduceEqDiff, Nat.reduceAdd, Nat.reduceMul, List.length_map, List.length_cons, List.length_nil, List.getElem_map, Int.toNat_natCast, List.cons_append, List.nil_append, List.set_cons_zero, List.set_cons_succ, splice, List.take_succ_cons, List.take_zero, List.drop_succ_cons, List.drop_zero, Nat.zero_add, Nat.add_zero, List.map_cons, List.map_nil, List.take_nil, List.drop_nil, List.append_nil, Sub.ds]; done) | (simp only [St.put, putE, U, del, lk, ev, cAV, lkG, rsAV, rvAV, ↓reduceIte, Nat.reduceEqDiff, Nat.reduceAdd, Nat.reduceMul, List.length_map, List.length_cons, List.length_nil, List.getElem_map, Int.toNat_natCast, List.cons_append, List.nil_append, List.set_cons_zero, List.set_cons_succ, splice, List.take_succ_cons, List.take_zero, List.drop_succ_cons, List.drop_zero, Nat.zero_add, Nat.add_zero, List.map_cons, List.map_nil, List.take_nil, List.drop_nil, List.append_nil, Sub.ds]; rfl) | rfl) : AXd P pm h ops pre ρ Kd := he ▸ hk
theorem AXl.nm_b4 {P : Program} {pm : Pm} {ops : Array Oper} {rest : List Oper} {st st' : St} {K : St → Prop} (hk : AXl P pm ops rest st' K) (he : st = st' := by first | (simp only [St.put, putE, U, del, lk, ev, cAV, lkG, rsAV, rvAV, ↓reduceIte, Nat.reduceEqDiff, Nat.reduceAdd, Nat.reduceMul, List.length_map, List.length_cons, List.length_nil, List.getElem_map, Int.toNat_natCast, List.cons_append, List.nil_append, List.set_cons_zero, List.set_cons_succ, splice, List.take_succ_cons, List.take_zero, List.drop_succ_cons, List.drop_zero, Nat.zero_add, Nat.add_zero, List.map_cons, List.map_nil, List.take_nil, List.drop_nil, List.append_nil, fI_ge]; done) | (simp only [St.put, putE, U, del, lk, ev, cAV, lkG, rsAV, rvAV, ↓reduceIte, Nat.reduceEqDiff, Nat.reduceAdd, Nat.reduceMul, List.length_map, List.length_cons, List.length_nil, List.getElem_map, Int.toNat_natCast, List.cons_append, List.nil_append, List.set_cons_zero, List.set_cons_succ, splice, List.take_succ_cons, List.take_zero, List.drop_succ_cons, List.drop_zero, Nat.zero_add, Nat.add_zero, List.map_cons, List.map_nil, List.take_nil, List.drop_nil, List.append_nil, fI_ge]; rfl) | rfl) : AXl P pm ops rest st K := he ▸ hk
theorem AXd.nm_b4 {P : Program} {pm : Pm} {h : List LB} {ops : Array Oper} {pre : List Oper} {ρ ρ' : List (Nat × AV)} {Kd : List (Nat × AV) → Prop} (hk : AXd P pm h ops pre ρ' Kd) (he : ρ = ρ' := by first | (simp only [St.put, putE, U, del, lk, ev, cAV, lkG, rsAV, rvAV, ↓reduceIte, Nat.reduceEqDiff, Nat.reduceAdd, Nat.reduceMul, List.length_map, List.length_cons, List.length_nil, List.getElem_map, Int.toNat_natCast, List.cons_append, List.nil_append, List.set_cons_zero, List.set_cons_succ, splice, List.take_succ_cons, List.take_zero, List.drop_succ_cons, List.drop_zero, Nat.zero_add, Nat.add_zero, List.map_cons, List.map_nil, List.take_nil, List.drop_nil, List.append_nil, fI_ge]; done) | (simp only [St.put, putE, U, del, lk, ev, cAV, lkG, rsAV, rvAV, ↓reduceIte, Nat.reduceEqDiff, Nat.reduceAdd, Nat.reduceMul, List.length_map, List.length_cons, List.length_nil, List.getElem_map, Int.toNat_natCast, List.cons_append, List.nil_append, List.set_cons_zero, List.set_cons_succ, splice, List.take_succ_cons, List.take_zero, List.drop_succ_cons, List.drop_zero, Nat.zero_add, Nat.add_zero, List.map_cons, List.map_nil, List.take_nil, List.drop_nil, List.append_nil, fI_ge]; rfl) | rfl) : AXd P pm h ops pre ρ Kd := he ▸ hk
/-- The contract of slices.IndexFunc   library api.TagRule library api.TagRule . -/
theorem c21 {Γ : List (Nat × List D)} (l : List TagRule) (p : TagRule → Bool) (hl : l.length ≤ 1000000) : AFn Tryd.prog Γ 21 [.c (.d (.lst 7 (l.map TagRule.ds))), .c (.fn (FnSpec Tryd.prog Γ (predF TagRule.ds p)))] [.d (.int .i64 (fI p 0 l))] := by
  refine AFn.of_body0 (n := 19) (res := [.tmp 4]) Tryd.func21 (by kernel_rfl) rfl Tryd.ntmps21 (by rw [Tryd.results21]) (by simp) ?_
  simp only [envOf, Nat.reduceAdd]
  refine AXc.seq fun K1 hK1 => ?_
  refine AXc.region' fun K2 hK2 => ?_
  refine AXl.qt rfl (by decide : (4:Nat) < 19) (Still.qt (s_assign _)) ?_
  refine AXl.nm_b0 ?_
  refine AXl.nil ?_
  refine hK2 _ ?_
  clear hK2 K2
  refine Ethen.n ?_
  refine hK1 _ ?_
  clear hK1 K1
  refine AXc.seq fun K3 hK3 => ?_
  refine AXc.seq fun K4 hK4 => ?_
  refine AXc.region' fun K5 hK5 => ?_
  refine AXl.qt rfl (by decide : (6:Nat) < 19) (Still.qt (s_move _)) ?_
  first
    | refine AXl.qt rfl (by decide : (7:Nat) < 19) (Still.qt (s_len _ _ Tryd.underlying22 rfl)) ?_
    | refine AXl.qt rfl (by decide : (7:Nat) < 19) (Still.qt (s_len_nil _ _ Tryd.underlying22 rfl)) ?_
  refine AXl.qt rfl (by decide : (8:Nat) < 19) (Still.qt (s_move _)) ?_
  refine AXl.nm_b0 ?_
  refine AXl.nil ?_
  refine hK5 _ ?_
  clear hK5 K5
  refine Ethen.n ?_
  refine hK4 _ ?_
  clear hK4 K4
  refine AXc.block ?_
  refine AXc.loop (S := Nat) (fun k => ⟨[(0, .c (.d (.lst 7 (l.map TagRule.ds)))), (1, .c (.fn (FnSpec Tryd.prog Γ (predF TagRule.ds p)))), (7, .c (.d (.int .i64 l.length))), (8, .c (.d (.int .i64 k)))], []⟩) (fun k => k ≤ l.length ∧ fI p k (l.drop k) = fI p 0 l) (fun k => l.length - k) 0 ⟨by omega, by simp⟩ (by refine ⟨?_, ?_, ?_, ?_, ?_, ?_⟩ <;> (simp [subE, lk, AV.low, C.low, LB.low] <;> fail)) ?_
  rintro k ⟨hk0, hinv⟩
  refine AXc.seq fun K6 hK6 => ?_
  refine AXc.region' fun K7 hK7 => ?_
  refine AXl.qt rfl (by decide : (9:Nat) < 19) (Still.qt (s_icmp _ _ _ _ _ rfl rfl rfl)) ?_
  refine AXl.nm_b0 ?_
  refine AXl.nil ?_
  refine hK7 _ ?_
  clear hK7 K7
  refine Ethen.n ?_
  refine hK6 _ ?_
  clear hK6 K6
  refine AXc.seq fun K8 hK8 => ?_
  refine AXc.cond rfl (fun hc9 => ?_) (fun hc9 => ?_)
  · try simp only [decide_eq_true_eq, decide_eq_false_iff_not, Bool.not_eq_true', Bool.not_eq_false', Int.not_lt, Int.not_le, ne_eq, Decidable.not_not, bne_iff_ne, beq_iff_eq, Bool.and_eq_true, Bool.or_eq_true, Bool.and_eq_false_iff, Bool.or_eq_false_iff, Bool.not_not, Ax.u8eq] at hc9
    refine AXc.skip ?_
    refine Ethen.n ?_
    refine hK8 _ ?_
    clear hK8 K8
    refine AXc.seq fun K10 hK10 => ?_
    refine AXc.block ?_
    refine AXc.seq fun K11 hK11 => ?_
    refine AXc.region' fun K12 hK12 => ?_
    refine AXl.qt rfl (by decide : (10:Nat) < 19) (Still.qt (s_move _)) ?_
    refine AXl.qt rfl (by decide : (5:Nat) < 19) (Still.qt (s_assign _)) ?_
    refine AXl.nm_b0 ?_
    refine AXl.nil ?_
    refine hK12 _ ?_
    clear hK12 K12
    refine Ethen.n ?_
    refine hK11 _ ?_
    clear hK11 K11
    refine AXc.seq fun K13 hK13 => ?_
    refine AXc.region' fun K14 hK14 => ?_
    refine AXl.qt rfl (by decide : (11:Nat) < 19) (Still.qt (s_move _)) ?_
    refine AXl.qt rfl (by decide : (12:Nat) < 19) (Still.qt (s_move _)) ?_
    refine AXl.qt rfl (by decide : (13:Nat) < 19) (Still.qt (s_move _)) ?_
    first
      | refine AXl.qt rfl (by decide : (14:Nat) < 19) (Still.qt (s_index _ _ _ slT_22_b (.inl rfl) rfl rfl (by first | omega | (simp only [List.length_map, List.length_cons, List.length_nil, List.length_append, List.length_take, List.length_drop]; omega)) (List.getElem?_eq_getElem (by first | omega | (simp only [List.length_map, List.length_cons, List.length_nil, List.length_append, List.length_take, List.length_drop]; omega))))) ?_
      | refine AXl.qt rfl (by decide : (14:Nat) < 19) (Still.qt (s_index _ _ _ slT_22_b (.inr rfl) rfl rfl (by first | omega | (simp only [List.length_map, List.length_cons, List.length_nil, List.length_append, List.length_take, List.length_drop]; omega)) (List.getElem?_eq_getElem (by first | omega | (simp only [List.length_map, List.length_cons, List.length_nil, List.length_append, List.length_take, List.length_drop]; omega))))) ?_
      | refine AXl.qt rfl (by decide : (14:Nat) < 19) (Still.qt (s_index_own _ _ _ slT_22_b rfl rfl rfl rfl (by first | omega | (simp only [List.length_map, List.length_cons, List.length_nil, List.length_append, List.length_take, List.length_drop]; omega)) (by first | omega | (simp only [List.length_map, List.length_cons, List.length_nil, List.length_append, List.length_take, List.length_drop]; omega)))) ?_
    refine AXl.nm_b0 ?_
    first
      | refine AXl.qt rfl (by decide : (15:Nat) < 19) (Still.qt (s_loadN _ _ ldT_29_b rfl (by simp [Problem.ds, TagRule.ds, Fld.ds, Sub.ds, Rec.ds]))) ?_
      | refine AXl.qt rfl (by decide : (15:Nat) < 19) (Still.qt (s_loadN_row _ _ ldT_29_b rfl rfl (by first | rfl | exact List.getElem?_eq_getElem (by omega)) (by simp [Problem.ds, TagRule.ds, Fld.ds, Sub.ds, Rec.ds]))) ?_
    refine AXl.nm_b0 ?_
    refine AXl.qt rfl (by decide : (16:Nat) < 19) (q_callfn rfl ⟨_, rfl, rfl⟩ (.cons (by first | exact ArgOk.d | exact ArgOk.bor rfl | exact ArgOk.agg rfl | exact ArgOk.agg (toDs_map _) | exact ArgOk.nil_bor | exact ArgOk.nil_lst | exact ArgOk.fn | exact ArgOk.ptr rfl rfl | exact ArgOk.aggn rfl (by repeat first | exact .nil | refine .cons (.refl _) ?_ | refine .cons (.nil _) ?_)) .nil)) ?_
    refine AXl.nm_b0 ?_
    refine AXl.nil ?_
    refine hK14 _ ?_
    clear hK14 K14
    refine Ethen.n ?_
    refine hK13 _ ?_
    clear hK13 K13
    refine AXc.cond rfl (fun hc15 => ?_) (fun hc15 => ?_)
    · try simp only [decide_eq_true_eq, decide_eq_false_iff_not, Bool.not_eq_true', Bool.not_eq_false', Int.not_lt, Int.not_le, ne_eq, Decidable.not_not, bne_iff_ne, beq_iff_eq, Bool.and_eq_true, Bool.or_eq_true, Bool.and_eq_false_iff, Bool.or_eq_false_iff, Bool.not_not, Ax.u8eq] at hc15
      refine AXc.seq fun K16 hK16 => ?_
      refine AXc.region' fun K17 hK17 => ?_
      refine AXl.qt rfl (by decide : (17:Nat) < 19) (Still.qt (s_move _)) ?_
      refine AXl.qt rfl (by decide : (4:Nat) < 19) (Still.qt (s_assign _)) ?_
      refine AXl.nm_b0 ?_
      refine AXl.nil ?_
      refine hK17 _ ?_
      clear hK17 K17
      refine Ethen.n ?_
      refine hK16 _ ?_
      clear hK16 K16
      refine AXc.ret ?_
      refine EinBlock.r ?_
      refine Ethen.r ?_
      clear hK10 K10
      refine Ethen.r ?_
      refine EinBlock.r ?_
      refine Ethen.r ?_
      clear hK3 K3
      refine Fin.ret rfl rfl ?_
      first
        | (have hk : k < l.length := by omega
           rw [← hinv, drop_cons hk, fI, if_pos hc15]; done)
        | (rw [← hinv, drop_end (by omega)]; rfl)
    · try simp only [decide_eq_true_eq, decide_eq_false_iff_not, Bool.not_eq_true', Bool.not_eq_false', Int.not_lt, Int.not_le, ne_eq, Decidable.not_not, bne_iff_ne, beq_iff_eq, Bool.and_eq_true, Bool.or_eq_true, Bool.and_eq_false_iff, Bool.or_eq_false_iff, Bool.not_not, Ax.u8eq] at hc15
      refine AXc.skip ?_
      refine EinBlock.n ?_
      refine Ethen.n ?_
      refine hK10 _ ?_
      clear hK10 K10
      refine AXc.region' fun K18 hK18 => ?_
      refine AXl.qt rfl (by decide : (18:Nat) < 19) (Still.qt (s_iar _ _ _ _ _ rfl rfl rfl (IntWalk.i64_in _ ⟨(by first | omega | (simp only [List.length_map, List.length_cons, List.length_nil, List.length_append, List.length_take, List.length_drop]; omega)), (by first | omega | (simp only [List.length_map, List.length_cons, List.length_nil, List.length_append, List.length_take, List.length_drop]; omega))⟩))) ?_
      refine AXl.qt rfl (by decide : (8:Nat) < 19) (Still.qt (s_move _)) ?_
      refine AXl.nm_b0 ?_
      refine AXl.nil ?_
      refine hK18 _ ?_
      clear hK18 K18
      refine Ethen.n ?_
      clear hK3 K3
      have hk : k < l.length := by omega
      refine ⟨k + 1, ⟨by omega, ?_⟩, by omega, (by refine ⟨?_, ?_, ?_, ?_, ?_, ?_⟩ <;> (simp [subE, lk, AV.low, C.low, LB.low] <;> fail))⟩
      rw [drop_cons hk, fI, if_neg (by simp [hc15])] at hinv
      exact hinv
  · try simp only [decide_eq_true_eq, decide_eq_false_iff_not, Bool.not_eq_true', Bool.not_eq_false', Int.not_lt, Int.not_le, ne_eq, Decidable.not_not, bne_iff_ne, beq_iff_eq, Bool.and_eq_true, Bool.or_eq_true, Bool.and_eq_false_iff, Bool.or_eq_false_iff, Bool.not_not, Ax.u8eq] at hc9
    refine AXc.exit ?_
    refine Ethen.e ?_
    clear hK8 K8
    refine Ethen.e ?_
    refine EinBlock.hit ?_
    refine Ethen.n ?_
    refine hK3 _ ?_
    clear hK3 K3
    refine AXc.seq fun K19 hK19 => ?_
    refine AXc.region' fun K20 hK20 => ?_
    refine AXl.qt rfl (by decide : (4:Nat) < 19) (Still.qt (s_assign _)) ?_
    refine AXl.nm_b0 ?_
    refine AXl.nil ?_
    refine hK20 _ ?_
    clear hK20 K20
    refine Ethen.n ?_
    refine hK19 _ ?_
    clear hK19 K19
    refine AXc.ret ?_
    refine Fin.ret rfl rfl ?_
    first
      | (have hk : k < l.length := by omega
         rw [← hinv, drop_cons hk, fI, if_pos hc9]; done)
      | (rw [← hinv, drop_end (by omega)]; rfl)
/-- The contract of slices.IndexFunc   library api.Field library api.Field . -/
theorem c39 {Γ : List (Nat × List D)} (l : List Fld) (p : Fld → Bool) (hl : l.length ≤ 1000000) : AFn Tryd.prog Γ 39 [.c (.d (.lst 4 (l.map Fld.ds))), .c (.fn (FnSpec Tryd.prog Γ (predF Fld.ds p)))] [.d (.int .i64 (fI p 0 l))] := by
  refine AFn.of_body0 (n := 19) (res := [.tmp 4]) Tryd.func39 (by kernel_rfl) rfl Tryd.ntmps39 (by rw [Tryd.results39]) (by simp) ?_
  simp only [envOf, Nat.reduceAdd]
  refine AXc.seq fun K1 hK1 => ?_
  refine AXc.region' fun K2 hK2 => ?_
  refine AXl.qt rfl (by decide : (4:Nat) < 19) (Still.qt (s_assign _)) ?_
  refine AXl.nm_b0 ?_
  refine AXl.nil ?_
  refine hK2 _ ?_
  clear hK2 K2
  refine Ethen.n ?_
  refine hK1 _ ?_
  clear hK1 K1
  refine AXc.seq fun K3 hK3 => ?_
  refine AXc.seq fun K4 hK4 => ?_
  refine AXc.region' fun K5 hK5 => ?_
  refine AXl.qt rfl (by decide : (6:Nat) < 19) (Still.qt (s_move _)) ?_
  first
    | refine AXl.qt rfl (by decide : (7:Nat) < 19) (Still.qt (s_len _ _ Tryd.underlying25 rfl)) ?_
    | refine AXl.qt rfl (by decide : (7:Nat) < 19) (Still.qt (s_len_nil _ _ Tryd.underlying25 rfl)) ?_
  refine AXl.qt rfl (by decide : (8:Nat) < 19) (Still.qt (s_move _)) ?_
  refine AXl.nm_b0 ?_
  refine AXl.nil ?_
  refine hK5 _ ?_
  clear hK5 K5
  refine Ethen.n ?_
  refine hK4 _ ?_
  clear hK4 K4
  refine AXc.block ?_
  refine AXc.loop (S := Nat) (fun k => ⟨[(0, .c (.d (.lst 4 (l.map Fld.ds)))), (1, .c (.fn (FnSpec Tryd.prog Γ (predF Fld.ds p)))), (7, .c (.d (.int .i64 l.length))), (8, .c (.d (.int .i64 k)))], []⟩) (fun k => k ≤ l.length ∧ fI p k (l.drop k) = fI p 0 l) (fun k => l.length - k) 0 ⟨by omega, by simp⟩ (by refine ⟨?_, ?_, ?_, ?_, ?_, ?_⟩ <;> (simp [subE, lk, AV.low, C.low, LB.low] <;> fail)) ?_
  rintro k ⟨hk0, hinv⟩
  refine AXc.seq fun K6 hK6 => ?_
  refine AXc.region' fun K7 hK7 => ?_
  refine AXl.qt rfl (by decide : (9:Nat) < 19) (Still.qt (s_icmp _ _ _ _ _ rfl rfl rfl)) ?_
  refine AXl.nm_b0 ?_
  refine AXl.nil ?_
  refine hK7 _ ?_
  clear hK7 K7
  refine Ethen.n ?_
  refine hK6 _ ?_
  clear hK6 K6
  refine AXc.seq fun K8 hK8 => ?_
  refine AXc.cond rfl (fun hc9 => ?_) (fun hc9 => ?_)
  · try simp only [decide_eq_true_eq, decide_eq_false_iff_not, Bool.not_eq_true', Bool.not_eq_false', Int.not_lt, Int.not_le, ne_eq, Decidable.not_not, bne_iff_ne, beq_iff_eq, Bool.and_eq_true, Bool.or_eq_true, Bool.and_eq_false_iff, Bool.or_eq_false_iff, Bool.not_not, Ax.u8eq] at hc9
    refine AXc.skip ?_
    refine Ethen.n ?_
    refine hK8 _ ?_
    clear hK8 K8
    refine AXc.seq fun K10 hK10 => ?_
    refine AXc.block ?_
    refine AXc.seq fun K11 hK11 => ?_
    refine AXc.region' fun K12 hK12 => ?_
    refine AXl.qt rfl (by decide : (10:Nat) < 19) (Still.qt (s_move _)) ?_
    refine AXl.qt rfl (by decide : (5:Nat) < 19) (Still.qt (s_assign _)) ?_
    refine AXl.nm_b0 ?_
    refine AXl.nil ?_
    refine hK12 _ ?_
    clear hK12 K12
    refine Ethen.n ?_
    refine hK11 _ ?_
    clear hK11 K11
    refine AXc.seq fun K13 hK13 => ?_
    refine AXc.region' fun K14 hK14 => ?_
    refine AXl.qt rfl (by decide : (11:Nat) < 19) (Still.qt (s_move _)) ?_
    refine AXl.qt rfl (by decide : (12:Nat) < 19) (Still.qt (s_move _)) ?_
    refine AXl.qt rfl (by decide : (13:Nat) < 19) (Still.qt (s_move _)) ?_
    first
      | refine AXl.qt rfl (by decide : (14:Nat) < 19) (Still.qt (s_index _ _ _ slT_25_b (.inl rfl) rfl rfl (by first | omega | (simp only [List.length_map, List.length_cons, List.length_nil, List.length_append, List.length_take, List.length_drop]; omega)) (List.getElem?_eq_getElem (by first | omega | (simp only [List.length_map, List.length_cons, List.length_nil, List.length_append, List.length_take, List.length_drop]; omega))))) ?_
      | refine AXl.qt rfl (by decide : (14:Nat) < 19) (Still.qt (s_index _ _ _ slT_25_b (.inr rfl) rfl rfl (by first | omega | (simp only [List.length_map, List.length_cons, List.length_nil, List.length_append, List.length_take, List.length_drop]; omega)) (List.getElem?_eq_getElem (by first | omega | (simp only [List.length_map, List.length_cons, List.length_nil, List.length_append, List.length_take, List.length_drop]; omega))))) ?_
      | refine AXl.qt rfl (by decide : (14:Nat) < 19) (Still.qt (s_index_own _ _ _ slT_25_b rfl rfl rfl rfl (by first | omega | (simp only [List.length_map, List.length_cons, List.length_nil, List.length_append, List.length_take, List.length_drop]; omega)) (by first | omega | (simp only [List.length_map, List.length_cons, List.length_nil, List.length_append, List.length_take, List.length_drop]; omega)))) ?_
    refine AXl.nm_b0 ?_
    first
      | refine AXl.qt rfl (by decide : (15:Nat) < 19) (Still.qt (s_loadN _ _ ldT_45_b rfl (by simp [Problem.ds, TagRule.ds, Fld.ds, Sub.ds, Rec.ds]))) ?_
      | refine AXl.qt rfl (by decide : (15:Nat) < 19) (Still.qt (s_loadN_row _ _ ldT_45_b rfl rfl (by first | rfl | exact List.getElem?_eq_getElem (by omega)) (by simp [Problem.ds, TagRule.ds, Fld.ds, Sub.ds, Rec.ds]))) ?_
    refine AXl.nm_b0 ?_
    refine AXl.qt rfl (by decide : (16:Nat) < 19) (q_callfn rfl ⟨_, rfl, rfl⟩ (.cons (by first | exact ArgOk.d | exact ArgOk.bor rfl | exact ArgOk.agg rfl | exact ArgOk.agg (toDs_map _) | exact ArgOk.nil_bor | exact ArgOk.nil_lst | exact ArgOk.fn | exact ArgOk.ptr rfl rfl | exact ArgOk.aggn rfl (by repeat first | exact .nil | refine .cons (.refl _) ?_ | refine .cons (.nil _) ?_)) .nil)) ?_
    refine AXl.nm_b0 ?_
    refine AXl.nil ?_
    refine hK14 _ ?_
    clear hK14 K14
    refine Ethen.n ?_
    refine hK13 _ ?_
    clear hK13 K13
    refine AXc.cond rfl (fun hc15 => ?_) (fun hc15 => ?_)
    · try simp only [decide_eq_true_eq, decide_eq_false_iff_not, Bool.not_eq_true', Bool.not_eq_false', Int.not_lt, Int.not_le, ne_eq, Decidable.not_not, bne_iff_ne, beq_iff_eq, Bool.and_eq_true, Bool.or_eq_true, Bool.and_eq_false_iff, Bool.or_eq_false_iff, Bool.not_not, Ax.u8eq] at hc15
      refine AXc.seq fun K16 hK16 => ?_
      refine AXc.region' fun K17 hK17 => ?_
      refine AXl.qt rfl (by decide : (17:Nat) < 19) (Still.qt (s_move _)) ?_
      refine AXl.qt rfl (by decide : (4:Nat) < 19) (Still.qt (s_assign _)) ?_
      refine AXl.nm_b0 ?_
      refine AXl.nil ?_
      refine hK17 _ ?_
      clear hK17 K17
      refine Ethen.n ?_
      refine hK16 _ ?_
      clear hK16 K16
      refine AXc.ret ?_
      refine EinBlock.r ?_
      refine Ethen.r ?_
      clear hK10 K10
      refine Ethen.r ?_
      refine EinBlock.r ?_
      refine Ethen.r ?_
      clear hK3 K3
      refine Fin.ret rfl rfl ?_
      first
        | (have hk : k < l.length := by omega
           rw [← hinv, drop_cons hk, fI, if_pos hc15]; done)
        | (rw [← hinv, drop_end (by omega)]; rfl)
    · try simp only [decide_eq_true_eq, decide_eq_false_iff_not, Bool.not_eq_true', Bool.not_eq_false', Int.not_lt, Int.not_le, ne_eq, Decidable.not_not, bne_iff_ne, beq_iff_eq, Bool.and_eq_true, Bool.or_eq_true, Bool.and_eq_false_iff, Bool.or_eq_false_iff, Bool.not_not, Ax.u8eq] at hc15
      refine AXc.skip ?_
      refine EinBlock.n ?_
      refine Ethen.n ?_
      refine hK10 _ ?_
      clear hK10 K10
      refine AXc.region' fun K18 hK18 => ?_
      refine AXl.qt rfl (by decide : (18:Nat) < 19) (Still.qt (s_iar _ _ _ _ _ rfl rfl rfl (IntWalk.i64_in _ ⟨(by first | omega | (simp only [List.length_map, List.length_cons, List.length_nil, List.length_append, List.length_take, List.length_drop]; omega)), (by first | omega | (simp only [List.length_map, List.length_cons, List.length_nil, List.length_append, List.length_take, List.length_drop]; omega))⟩))) ?_
      refine AXl.qt rfl (by decide : (8:Nat) < 19) (Still.qt (s_move _)) ?_
      refine AXl.nm_b0 ?_
      refine AXl.nil ?_
      refine hK18 _ ?_
      clear hK18 K18
      refine Ethen.n ?_
      clear hK3 K3
      have hk : k < l.length := by omega
      refine ⟨k + 1, ⟨by omega, ?_⟩, by omega, (by refine ⟨?_, ?_, ?_, ?_, ?_, ?_⟩ <;> (simp [subE, lk, AV.low, C.low, LB.low] <;> fail))⟩
      rw [drop_cons hk, fI, if_neg (by simp [hc15])] at hinv
      exact hinv
  · try simp only [decide_eq_true_eq, decide_eq_false_iff_not, Bool.not_eq_true', Bool.not_eq_false', Int.not_lt, Int.not_le, ne_eq, Decidable.not_not, bne_iff_ne, beq_iff_eq, Bool.and_eq_true, Bool.or_eq_true, Bool.and_eq_false_iff, Bool.or_eq_false_iff, Bool.not_not, Ax.u8eq] at hc9
    refine AXc.exit ?_
    refine Ethen.e ?_
    clear hK8 K8
    refine Ethen.e ?_
    refine EinBlock.hit ?_
    refine Ethen.n ?_
    refine hK3 _ ?_
    clear hK3 K3
    refine AXc.seq fun K19 hK19 => ?_
    refine AXc.region' fun K20 hK20 => ?_
    refine AXl.qt rfl (by decide : (4:Nat) < 19) (Still.qt (s_assign _)) ?_
    refine AXl.nm_b0 ?_
    refine AXl.nil ?_
    refine hK20 _ ?_
    clear hK20 K20
    refine Ethen.n ?_
    refine hK19 _ ?_
    clear hK19 K19
    refine AXc.ret ?_
    refine Fin.ret rfl rfl ?_
    first
      | (have hk : k < l.length := by omega
         rw [← hinv, drop_cons hk, fI, if_pos hc9]; done)
      | (rw [← hinv, drop_end (by omega)]; rfl)
/-- The contract of slices.IndexFunc   library api.Sub library api.Sub . -/
theorem c44 {Γ : List (Nat × List D)} (l : List Sub) (p : Sub → Bool) (hl : l.length ≤ 1000000) : AFn Tryd.prog Γ 44 [.c (.d (.lst 2 (l.map Sub.ds))), .c (.fn (FnSpec Tryd.prog Γ (predF Sub.ds p)))] [.d (.int .i64 (fI p 0 l))] := by
  refine AFn.of_body0 (n := 19) (res := [.tmp 4]) Tryd.func44 (by kernel_rfl) rfl Tryd.ntmps44 (by rw [Tryd.results44]) (by simp) ?_
  simp only [envOf, Nat.reduceAdd]
  refine AXc.seq fun K1 hK1 => ?_
  refine AXc.region' fun K2 hK2 => ?_
  refine AXl.qt rfl (by decide : (4:Nat) < 19) (Still.qt (s_assign _)) ?_
  refine AXl.nm_b0 ?_
  refine AXl.nil ?_
  refine hK2 _ ?_
  clear hK2 K2
  refine Ethen.n ?_
  refine hK1 _ ?_
  clear hK1 K1
  refine AXc.seq fun K3 hK3 => ?_
  refine AXc.seq fun K4 hK4 => ?_
  refine AXc.region' fun K5 hK5 => ?_
  refine AXl.qt rfl (by decide : (6:Nat) < 19) (Still.qt (s_move _)) ?_
  first
    | refine AXl.qt rfl (by decide : (7:Nat) < 19) (Still.qt (s_len _ _ Tryd.underlying43 rfl)) ?_
    | refine AXl.qt rfl (by decide : (7:Nat) < 19) (Still.qt (s_len_nil _ _ Tryd.underlying43 rfl)) ?_
  refine AXl.qt rfl (by decide : (8:Nat) < 19) (Still.qt (s_move _)) ?_
  refine AXl.nm_b0 ?_
  refine AXl.nil ?_
  refine hK5 _ ?_
  clear hK5 K5
  refine Ethen.n ?_
  refine hK4 _ ?_
  clear hK4 K4
  refine AXc.block ?_
  refine AXc.loop (S := Nat) (fun k => ⟨[(0, .c (.d (.lst 2 (l.map Sub.ds)))), (1, .c (.fn (FnSpec Tryd.prog Γ (predF Sub.ds p)))), (7, .c (.d (.int .i64 l.length))), (8, .c (.d (.int .i64 k)))], []⟩) (fun k => k ≤ l.length ∧ fI p k (l.drop k) = fI p 0 l) (fun k => l.length - k) 0 ⟨by omega, by simp⟩ (by refine ⟨?_, ?_, ?_, ?_, ?_, ?_⟩ <;> (simp [subE, lk, AV.low, C.low, LB.low] <;> fail)) ?_
  rintro k ⟨hk0, hinv⟩
  refine AXc.seq fun K6 hK6 => ?_
  refine AXc.region' fun K7 hK7 => ?_
  refine AXl.qt rfl (by decide : (9:Nat) < 19) (Still.qt (s_icmp _ _ _ _ _ rfl rfl rfl)) ?_
  refine AXl.nm_b0 ?_
  refine AXl.nil ?_
  refine hK7 _ ?_
  clear hK7 K7
  refine Ethen.n ?_
  refine hK6 _ ?_
  clear hK6 K6
  refine AXc.seq fun K8 hK8 => ?_
  refine AXc.cond rfl (fun hc9 => ?_) (fun hc9 => ?_)
  · try simp only [decide_eq_true_eq, decide_eq_false_iff_not, Bool.not_eq_true', Bool.not_eq_false', Int.not_lt, Int.not_le, ne_eq, Decidable.not_not, bne_iff_ne, beq_iff_eq, Bool.and_eq_true, Bool.or_eq_true, Bool.and_eq_false_iff, Bool.or_eq_false_iff, Bool.not_not, Ax.u8eq] at hc9
    refine AXc.skip ?_
    refine Ethen.n ?_
    refine hK8 _ ?_
    clear hK8 K8
    refine AXc.seq fun K10 hK10 => ?_
    refine AXc.block ?_
    refine AXc.seq fun K11 hK11 => ?_
    refine AXc.region' fun K12 hK12 => ?_
    refine AXl.qt rfl (by decide : (10:Nat) < 19) (Still.qt (s_move _)) ?_
    refine AXl.qt rfl (by decide : (5:Nat) < 19) (Still.qt (s_assign _)) ?_
    refine AXl.nm_b0 ?_
    refine AXl.nil ?_
    refine hK12 _ ?_
    clear hK12 K12
    refine Ethen.n ?_
    refine hK11 _ ?_
    clear hK11 K11
    refine AXc.seq fun K13 hK13 => ?_
    refine AXc.region' fun K14 hK14 => ?_
    refine AXl.qt rfl (by decide : (11:Nat) < 19) (Still.qt (s_move _)) ?_
    refine AXl.qt rfl (by decide : (12:Nat) < 19) (Still.qt (s_move _)) ?_
    refine AXl.qt rfl (by decide : (13:Nat) < 19) (Still.qt (s_move _)) ?_
    first
      | refine AXl.qt rfl (by decide : (14:Nat) < 19) (Still.qt (s_index _ _ _ slT_43_b (.inl rfl) rfl rfl (by first | omega | (simp only [List.length_map, List.length_cons, List.length_nil, List.length_append, List.length_take, List.length_drop]; omega)) (List.getElem?_eq_getElem (by first | omega | (simp only [List.length_map, List.length_cons, List.length_nil, List.length_append, List.length_take, List.length_drop]; omega))))) ?_
      | refine AXl.qt rfl (by decide : (14:Nat) < 19) (Still.qt (s_index _ _ _ slT_43_b (.inr rfl) rfl rfl (by first | omega | (simp only [List.length_map, List.length_cons, List.length_nil, List.length_append, List.length_take, List.length_drop]; omega)) (List.getElem?_eq_getElem (by first | omega | (simp only [List.length_map, List.length_cons, List.length_nil, List.length_append, List.length_take, List.length_drop]; omega))))) ?_
      | refine AXl.qt rfl (by decide : (14:Nat) < 19) (Still.qt (s_index_own _ _ _ slT_43_b rfl rfl rfl rfl (by first | omega | (simp only [List.length_map, List.length_cons, List.length_nil, List.length_append, List.length_take, List.length_drop]; omega)) (by first | omega | (simp only [List.length_map, List.length_cons, List.length_nil, List.length_append, List.length_take, List.length_drop]; omega)))) ?_
    refine AXl.nm_b0 ?_
    first
      | refine AXl.qt rfl (by decide : (15:Nat) < 19) (Still.qt (s_loadN _ _ ldT_55_b rfl (by simp [Problem.ds, TagRule.ds, Fld.ds, Sub.ds, Rec.ds]))) ?_
      | refine AXl.qt rfl (by decide : (15:Nat) < 19) (Still.qt (s_loadN_row _ _ ldT_55_b rfl rfl (by first | rfl | exact List.getElem?_eq_getElem (by omega)) (by simp [Problem.ds, TagRule.ds, Fld.ds, Sub.ds, Rec.ds]))) ?_
    refine AXl.nm_b0 ?_
    refine AXl.qt rfl (by decide : (16:Nat) < 19) (q_callfn rfl ⟨_, rfl, rfl⟩ (.cons (by first | exact ArgOk.d | exact ArgOk.bor rfl | exact ArgOk.agg rfl | exact ArgOk.agg (toDs_map _) | exact ArgOk.nil_bor | exact ArgOk.nil_lst | exact ArgOk.fn | exact ArgOk.ptr rfl rfl | exact ArgOk.aggn rfl (by repeat first | exact .nil | refine .cons (.refl _) ?_ | refine .cons (.nil _) ?_)) .nil)) ?_
    refine AXl.nm_b0 ?_
    refine AXl.nil ?_
    refine hK14 _ ?_
    clear hK14 K14
    refine Ethen.n ?_
    refine hK13 _ ?_
    clear hK13 K13
    refine AXc.cond rfl (fun hc15 => ?_) (fun hc15 => ?_)
    · try simp only [decide_eq_true_eq, decide_eq_false_iff_not, Bool.not_eq_true', Bool.not_eq_false', Int.not_lt, Int.not_le, ne_eq, Decidable.not_not, bne_iff_ne, beq_iff_eq, Bool.and_eq_true, Bool.or_eq_true, Bool.and_eq_false_iff, Bool.or_eq_false_iff, Bool.not_not, Ax.u8eq] at hc15
      refine AXc.seq fun K16 hK16 => ?_
      refine AXc.region' fun K17 hK17 => ?_
      refine AXl.qt rfl (by decide : (17:Nat) < 19) (Still.qt (s_move _)) ?_
      refine AXl.qt rfl (by decide : (4:Nat) < 19) (Still.qt (s_assign _)) ?_
      refine AXl.nm_b0 ?_
      refine AXl.nil ?_
      refine hK17 _ ?_
      clear hK17 K17
      refine Ethen.n ?_
      refine hK16 _ ?_
      clear hK16 K16
      refine AXc.ret ?_
      refine EinBlock.r ?_
      refine Ethen.r ?_
      clear hK10 K10
      refine Ethen.r ?_
      refine EinBlock.r ?_
      refine Ethen.r ?_
      clear hK3 K3
      refine Fin.ret rfl rfl ?_
      first
        | (have hk : k < l.length := by omega
           rw [← hinv, drop_cons hk, fI, if_pos hc15]; done)
        | (rw [← hinv, drop_end (by omega)]; rfl)
    · try simp only [decide_eq_true_eq, decide_eq_false_iff_not, Bool.not_eq_true', Bool.not_eq_false', Int.not_lt, Int.not_le, ne_eq, Decidable.not_not, bne_iff_ne, beq_iff_eq, Bool.and_eq_true, Bool.or_eq_true, Bool.and_eq_false_iff, Bool.or_eq_false_iff, Bool.not_not, Ax.u8eq] at hc15
      refine AXc.skip ?_
      refine EinBlock.n ?_
      refine Ethen.n ?_
      refine hK10 _ ?_
      clear hK10 K10
      refine AXc.region' fun K18 hK18 => ?_
      refine AXl.qt rfl (by decide : (18:Nat) < 19) (Still.qt (s_iar _ _ _ _ _ rfl rfl rfl (IntWalk.i64_in _ ⟨(by first | omega | (simp only [List.length_map, List.length_cons, List.length_nil, List.length_append, List.length_take, List.length_drop]; omega)), (by first | omega | (simp only [List.length_map, List.length_cons, List.length_nil, List.length_append, List.length_take, List.length_drop]; omega))⟩))) ?_
      refine AXl.qt rfl (by decide : (8:Nat) < 19) (Still.qt (s_move _)) ?_
      refine AXl.nm_b0 ?_
      refine AXl.nil ?_
      refine hK18 _ ?_
      clear hK18 K18
      refine Ethen.n ?_
      clear hK3 K3
      have hk : k < l.length := by omega
      refine ⟨k + 1, ⟨by omega, ?_⟩, by omega, (by refine ⟨?_, ?_, ?_, ?_, ?_, ?_⟩ <;> (simp [subE, lk, AV.low, C.low, LB.low] <;> fail))⟩
      rw [drop_cons hk, fI, if_neg (by simp [hc15])] at hinv
      exact hinv
  · try simp only [decide_eq_true_eq, decide_eq_false_iff_not, Bool.not_eq_true', Bool.not_eq_false', Int.not_lt, Int.not_le, ne_eq, Decidable.not_not, bne_iff_ne, beq_iff_eq, Bool.and_eq_true, Bool.or_eq_true, Bool.and_eq_false_iff, Bool.or_eq_false_iff, Bool.not_not, Ax.u8eq] at hc9
    refine AXc.exit ?_
    refine Ethen.e ?_
    clear hK8 K8
    refine Ethen.e ?_
    refine EinBlock.hit ?_
    refine Ethen.n ?_
    refine hK3 _ ?_
    clear hK3 K3
    refine AXc.seq fun K19 hK19 => ?_
    refine AXc.region' fun K20 hK20 => ?_
    refine AXl.qt rfl (by decide : (4:Nat) < 19) (Still.qt (s_assign _)) ?_
    refine AXl.nm_b0 ?_
    refine AXl.nil ?_
    refine hK20 _ ?_
    clear hK20 K20
    refine Ethen.n ?_
    refine hK19 _ ?_
    clear hK19 K19
    refine AXc.ret ?_
    refine Fin.ret rfl rfl ?_
    first
      | (have hk : k < l.length := by omega
         rw [← hinv, drop_cons hk, fI, if_pos hc9]; done)
      | (rw [← hinv, drop_end (by omega)]; rfl)
/-- The contract of library rules.Find 1. -/
theorem c22 {Γ : List (Nat × List D)} (x : TagRule) (t : Str) : AFn Tryd.prog Γ 22 [.agg (x.ds.map C.d), .c (.ptr [.str t])] [.d (.bool (x.tag == t))] := by
  refine AFn.of_body0 (n := 8) (res := [.tmp 3]) Tryd.func22 (by kernel_rfl) rfl Tryd.ntmps22 (by rw [Tryd.results22]) (by simp) ?_
  simp only [envOf, Nat.reduceAdd]
  refine AXc.seq fun K1 hK1 => ?_
  refine AXc.region' fun K2 hK2 => ?_
  refine AXl.box rfl (by decide : (2:Nat) < 8) ?_
  refine AXl.qt rfl (by decide : (3:Nat) < 8) (Still.qt (s_assign _)) ?_
  refine AXl.nm_b1 ?_
  refine AXl.nil ?_
  refine hK2 _ ?_
  clear hK2 K2
  refine Ethen.n ?_
  refine hK1 _ ?_
  clear hK1 K1
  refine AXc.seq fun K3 hK3 => ?_
  refine AXc.region' fun K4 hK4 => ?_
  first
    | refine AXl.qt rfl (by decide : (4:Nat) < 8) (Still.qt (s_field_loc _ _ _ fdT_29_0_b rfl)) ?_
    | refine AXl.qt rfl (by decide : (4:Nat) < 8) (Still.qt (s_field_ptr _ _ _ fdT_29_0_b rfl)) ?_
    | refine AXl.qt rfl (by decide : (4:Nat) < 8) (Still.qt (s_field_row _ _ _ fdT_29_0_b rfl rfl)) ?_
  first
    | refine AXl.qt rfl (by decide : (5:Nat) < 8) (Still.qt (s_load1 _ _ ldT_9_b rfl)) ?_
    | refine AXl.qt rfl (by decide : (5:Nat) < 8) (Still.qt (s_load1_row _ _ ldT_9_b rfl rfl (by first | rfl | exact List.getElem?_eq_getElem (by omega)) rfl)) ?_
  first
    | refine AXl.qt rfl (by decide : (6:Nat) < 8) (Still.qt (s_load1 _ _ ldT_9_b rfl)) ?_
    | refine AXl.qt rfl (by decide : (6:Nat) < 8) (Still.qt (s_load1_row _ _ ldT_9_b rfl rfl (by first | rfl | exact List.getElem?_eq_getElem (by omega)) rfl)) ?_
  refine AXl.qt rfl (by decide : (7:Nat) < 8) (Still.qt (s_scmp _ _ _ _ _ rfl rfl rfl)) ?_
  refine AXl.qt rfl (by decide : (3:Nat) < 8) (Still.qt (s_assign _)) ?_
  refine AXl.nm_b1 ?_
  refine AXl.nil ?_
  refine hK4 _ ?_
  clear hK4 K4
  refine Ethen.n ?_
  refine hK3 _ ?_
  clear hK3 K3
  refine AXc.ret ?_
  refine Fin.ret rfl rfl ?_
  by_cases h : x.tag = t <;> simp [h]
/-- The contract of library rules.has 1. -/
theorem c35 {Γ : List (Nat × List D)} (x : Fld) (t : Str) : AFn Tryd.prog Γ 35 [.agg (x.ds.map C.d), .c (.ptr [.str t])] [.d (.bool (x.tag == t))] := by
  refine AFn.of_body0 (n := 8) (res := [.tmp 3]) Tryd.func35 (by kernel_rfl) rfl Tryd.ntmps35 (by rw [Tryd.results35]) (by simp) ?_
  simp only [envOf, Nat.reduceAdd]
  refine AXc.seq fun K1 hK1 => ?_
  refine AXc.region' fun K2 hK2 => ?_
  refine AXl.box rfl (by decide : (2:Nat) < 8) ?_
  refine AXl.qt rfl (by decide : (3:Nat) < 8) (Still.qt (s_assign _)) ?_
  refine AXl.nm_b2 ?_
  refine AXl.nil ?_
  refine hK2 _ ?_
  clear hK2 K2
  refine Ethen.n ?_
  refine hK1 _ ?_
  clear hK1 K1
  refine AXc.seq fun K3 hK3 => ?_
  refine AXc.region' fun K4 hK4 => ?_
  first
    | refine AXl.qt rfl (by decide : (4:Nat) < 8) (Still.qt (s_field_loc _ _ _ fdT_45_0_b rfl)) ?_
    | refine AXl.qt rfl (by decide : (4:Nat) < 8) (Still.qt (s_field_ptr _ _ _ fdT_45_0_b rfl)) ?_
    | refine AXl.qt rfl (by decide : (4:Nat) < 8) (Still.qt (s_field_row _ _ _ fdT_45_0_b rfl rfl)) ?_
  first
    | refine AXl.qt rfl (by decide : (5:Nat) < 8) (Still.qt (s_load1 _ _ ldT_9_b rfl)) ?_
    | refine AXl.qt rfl (by decide : (5:Nat) < 8) (Still.qt (s_load1_row _ _ ldT_9_b rfl rfl (by first | rfl | exact List.getElem?_eq_getElem (by omega)) rfl)) ?_
  first
    | refine AXl.qt rfl (by decide : (6:Nat) < 8) (Still.qt (s_load1 _ _ ldT_9_b rfl)) ?_
    | refine AXl.qt rfl (by decide : (6:Nat) < 8) (Still.qt (s_load1_row _ _ ldT_9_b rfl rfl (by first | rfl | exact List.getElem?_eq_getElem (by omega)) rfl)) ?_
  refine AXl.qt rfl (by decide : (7:Nat) < 8) (Still.qt (s_scmp _ _ _ _ _ rfl rfl rfl)) ?_
  refine AXl.qt rfl (by decide : (3:Nat) < 8) (Still.qt (s_assign _)) ?_
  refine AXl.nm_b2 ?_
  refine AXl.nil ?_
  refine hK4 _ ?_
  clear hK4 K4
  refine Ethen.n ?_
  refine hK3 _ ?_
  clear hK3 K3
  refine AXc.ret ?_
  refine Fin.ret rfl rfl ?_
  by_cases h : x.tag = t <;> simp [h]
/-- The contract of library rules.carries 1. -/
theorem c42 {Γ : List (Nat × List D)} (x : Sub) (t : UInt8) : AFn Tryd.prog Γ 42 [.agg (x.ds.map C.d), .c (.ptr [dB t])] [.d (.bool (x.code == t))] := by
  refine AFn.of_body0 (n := 8) (res := [.tmp 3]) Tryd.func42 (by kernel_rfl) rfl Tryd.ntmps42 (by rw [Tryd.results42]) (by simp) ?_
  simp only [envOf, Nat.reduceAdd]
  refine AXc.seq fun K1 hK1 => ?_
  refine AXc.region' fun K2 hK2 => ?_
  refine AXl.box rfl (by decide : (2:Nat) < 8) ?_
  refine AXl.qt rfl (by decide : (3:Nat) < 8) (Still.qt (s_assign _)) ?_
  refine AXl.nm_b3 ?_
  refine AXl.nil ?_
  refine hK2 _ ?_
  clear hK2 K2
  refine Ethen.n ?_
  refine hK1 _ ?_
  clear hK1 K1
  refine AXc.seq fun K3 hK3 => ?_
  refine AXc.region' fun K4 hK4 => ?_
  first
    | refine AXl.qt rfl (by decide : (4:Nat) < 8) (Still.qt (s_field_loc _ _ _ fdT_55_0_b rfl)) ?_
    | refine AXl.qt rfl (by decide : (4:Nat) < 8) (Still.qt (s_field_ptr _ _ _ fdT_55_0_b rfl)) ?_
    | refine AXl.qt rfl (by decide : (4:Nat) < 8) (Still.qt (s_field_row _ _ _ fdT_55_0_b rfl rfl)) ?_
  first
    | refine AXl.qt rfl (by decide : (5:Nat) < 8) (Still.qt (s_load1 _ _ ldT_5_b rfl)) ?_
    | refine AXl.qt rfl (by decide : (5:Nat) < 8) (Still.qt (s_load1_row _ _ ldT_5_b rfl rfl (by first | rfl | exact List.getElem?_eq_getElem (by omega)) rfl)) ?_
  first
    | refine AXl.qt rfl (by decide : (6:Nat) < 8) (Still.qt (s_load1 _ _ ldT_5_b rfl)) ?_
    | refine AXl.qt rfl (by decide : (6:Nat) < 8) (Still.qt (s_load1_row _ _ ldT_5_b rfl rfl (by first | rfl | exact List.getElem?_eq_getElem (by omega)) rfl)) ?_
  refine AXl.qt rfl (by decide : (7:Nat) < 8) (Still.qt (s_icmp _ _ _ _ _ rfl rfl rfl)) ?_
  refine AXl.qt rfl (by decide : (3:Nat) < 8) (Still.qt (s_assign _)) ?_
  refine AXl.nm_b3 ?_
  refine AXl.nil ?_
  refine hK4 _ ?_
  clear hK4 K4
  refine Ethen.n ?_
  refine hK3 _ ?_
  clear hK3 K3
  refine AXc.ret ?_
  refine Fin.ret rfl rfl ?_
  simp only [u8eq]; rfl
/-- The contract of slices.ContainsFunc   library api.Field library api.Field . -/
theorem c34 {Γ : List (Nat × List D)} (l : List Fld) (p : Fld → Bool) (hl : l.length ≤ 1000000) : AFn Tryd.prog Γ 34 [.c (.d (.lst 4 (l.map Fld.ds))), .c (.fn (FnSpec Tryd.prog Γ (predF Fld.ds p)))] [.d (.bool (l.any p))] := by
  refine AFn.of_body0 (n := 9) (res := [.tmp 4]) Tryd.func34 (by kernel_rfl) rfl Tryd.ntmps34 (by rw [Tryd.results34]) (by simp) ?_
  simp only [envOf, Nat.reduceAdd]
  refine AXc.seq fun K1 hK1 => ?_
  refine AXc.region' fun K2 hK2 => ?_
  refine AXl.qt rfl (by decide : (4:Nat) < 9) (Still.qt (s_assign _)) ?_
  refine AXl.nm_b4 ?_
  refine AXl.nil ?_
  refine hK2 _ ?_
  clear hK2 K2
  refine Ethen.n ?_
  refine hK1 _ ?_
  clear hK1 K1
  refine AXc.seq fun K3 hK3 => ?_
  refine AXc.region' fun K4 hK4 => ?_
  refine AXl.qt rfl (by decide : (5:Nat) < 9) (Still.qt (s_move _)) ?_
  refine AXl.qt rfl (by decide : (6:Nat) < 9) (Still.qt (s_move _)) ?_
  refine AXl.nm_b4 ?_
  refine AXl.qt rfl (by decide : (7:Nat) < 9) (q_call (c39 _ _ hl) (.cons (by first | exact ArgOk.d | exact ArgOk.bor rfl | exact ArgOk.agg rfl | exact ArgOk.agg (toDs_map _) | exact ArgOk.nil_bor | exact ArgOk.nil_lst | exact ArgOk.fn | exact ArgOk.ptr rfl rfl | exact ArgOk.aggn rfl (by repeat first | exact .nil | refine .cons (.refl _) ?_ | refine .cons (.nil _) ?_)) (.cons (by first | exact ArgOk.d | exact ArgOk.bor rfl | exact ArgOk.agg rfl | exact ArgOk.agg (toDs_map _) | exact ArgOk.nil_bor | exact ArgOk.nil_lst | exact ArgOk.fn | exact ArgOk.ptr rfl rfl | exact ArgOk.aggn rfl (by repeat first | exact .nil | refine .cons (.refl _) ?_ | refine .cons (.nil _) ?_)) .nil))) ?_
  refine AXl.qt rfl (by decide : (8:Nat) < 9) (Still.qt (s_icmp _ _ _ _ _ rfl rfl rfl)) ?_
  refine AXl.qt rfl (by decide : (4:Nat) < 9) (Still.qt (s_assign _)) ?_
  refine AXl.nm_b4 ?_
  refine AXl.nil ?_
  refine hK4 _ ?_
  clear hK4 K4
  refine Ethen.n ?_
  refine hK3 _ ?_
  clear hK3 K3
  refine AXc.ret ?_
  refine Fin.ret rfl rfl ?_
  rfl
/-- The contract of slices.ContainsFunc   library api.Sub library api.Sub . -/
theorem c41 {Γ : List (Nat × List D)} (l : List Sub) (p : Sub → Bool) (hl : l.length ≤ 1000000) : AFn Tryd.prog Γ 41 [.c (.d (.lst 2 (l.map Sub.ds))), .c (.fn (FnSpec Tryd.prog Γ (predF Sub.ds p)))] [.d (.bool (l.any p))] := by
  refine AFn.of_body0 (n := 9) (res := [.tmp 4]) Tryd.func41 (by kernel_rfl) rfl Tryd.ntmps41 (by rw [Tryd.results41]) (by simp) ?_
  simp only [envOf, Nat.reduceAdd]
  refine AXc.seq fun K1 hK1 => ?_
  refine AXc.region' fun K2 hK2 => ?_
  refine AXl.qt rfl (by decide : (4:Nat) < 9) (Still.qt (s_assign _)) ?_
  refine AXl.nm_b4 ?_
  refine AXl.nil ?_
  refine hK2 _ ?_
  clear hK2 K2
  refine Ethen.n ?_
  refine hK1 _ ?_
  clear hK1 K1
  refine AXc.seq fun K3 hK3 => ?_
  refine AXc.region' fun K4 hK4 => ?_
  refine AXl.qt rfl (by decide : (5:Nat) < 9) (Still.qt (s_move _)) ?_
  refine AXl.qt rfl (by decide : (6:Nat) < 9) (Still.qt (s_move _)) ?_
  refine AXl.nm_b4 ?_
  refine AXl.qt rfl (by decide : (7:Nat) < 9) (q_call (c44 _ _ hl) (.cons (by first | exact ArgOk.d | exact ArgOk.bor rfl | exact ArgOk.agg rfl | exact ArgOk.agg (toDs_map _) | exact ArgOk.nil_bor | exact ArgOk.nil_lst | exact ArgOk.fn | exact ArgOk.ptr rfl rfl | exact ArgOk.aggn rfl (by repeat first | exact .nil | refine .cons (.refl _) ?_ | refine .cons (.nil _) ?_)) (.cons (by first | exact ArgOk.d | exact ArgOk.bor rfl | exact ArgOk.agg rfl | exact ArgOk.agg (toDs_map _) | exact ArgOk.nil_bor | exact ArgOk.nil_lst | exact ArgOk.fn | exact ArgOk.ptr rfl rfl | exact ArgOk.aggn rfl (by repeat first | exact .nil | refine .cons (.refl _) ?_ | refine .cons (.nil _) ?_)) .nil))) ?_
  refine AXl.qt rfl (by decide : (8:Nat) < 9) (Still.qt (s_icmp _ _ _ _ _ rfl rfl rfl)) ?_
  refine AXl.qt rfl (by decide : (4:Nat) < 9) (Still.qt (s_assign _)) ?_
  refine AXl.nm_b4 ?_
  refine AXl.nil ?_
  refine hK4 _ ?_
  clear hK4 K4
  refine Ethen.n ?_
  refine hK3 _ ?_
  clear hK3 K3
  refine AXc.ret ?_
  refine Fin.ret rfl rfl ?_
  rfl
/-- The contract of library rules.has. -/
theorem c30 {Γ : List (Nat × List D)} (l : List Fld) (t : Str) (hl : l.length ≤ 1000000) : AFn Tryd.prog Γ 30 [.c (.d (.lst 4 (l.map Fld.ds))), .c (.d (.str t))] [.d (.bool (l.any (·.tag == t)))] := by
  refine AFn.of_body0 (n := 8) (res := [.tmp 4]) Tryd.func30 (by kernel_rfl) rfl Tryd.ntmps30 (by rw [Tryd.results30]) (by simp) ?_
  simp only [envOf, Nat.reduceAdd]
  refine AXc.seq fun K1 hK1 => ?_
  refine AXc.region' fun K2 hK2 => ?_
  refine AXl.box rfl (by decide : (3:Nat) < 8) ?_
  refine AXl.qt rfl (by decide : (4:Nat) < 8) (Still.qt (s_assign _)) ?_
  refine AXl.nm_b0 ?_
  refine AXl.nil ?_
  refine hK2 _ ?_
  clear hK2 K2
  refine Ethen.n ?_
  refine hK1 _ ?_
  clear hK1 K1
  refine AXc.seq fun K3 hK3 => ?_
  refine AXc.region' fun K4 hK4 => ?_
  refine AXl.qt rfl (by decide : (5:Nat) < 8) (Still.qt (s_move _)) ?_
  refine AXl.qt rfl (by decide : (6:Nat) < 8) (Still.qt (s_makeFunc' _ _ rfl)) ?_
  refine AXl.nm_b0 ?_
  refine AXl.qt rfl (by decide : (7:Nat) < 8) (q_call (c34 l (·.tag == t) hl) (.cons (by first | exact ArgOk.d | exact ArgOk.bor rfl | exact ArgOk.agg rfl | exact ArgOk.agg (toDs_map _) | exact ArgOk.nil_bor | exact ArgOk.nil_lst | exact ArgOk.fn | exact ArgOk.ptr rfl rfl | exact ArgOk.aggn rfl (by repeat first | exact .nil | refine .cons (.refl _) ?_ | refine .cons (.nil _) ?_)) (.cons (ArgOk.clo (dss := [[.str t]]) (c35 (Γ := Γ) noFld []).call rfl (fun a r h => by obtain ⟨x, rfl, rfl⟩ := h; exact c35 x t)) .nil))) ?_
  refine AXl.qt rfl (by decide : (4:Nat) < 8) (Still.qt (s_assign _)) ?_
  refine AXl.nm_b0 ?_
  refine AXl.nil ?_
  refine hK4 _ ?_
  clear hK4 K4
  refine Ethen.n ?_
  refine hK3 _ ?_
  clear hK3 K3
  refine AXc.ret ?_
  refine Fin.ret rfl rfl ?_
  rfl
/-- The contract of library rules.carries. -/
theorem c38 {Γ : List (Nat × List D)} (l : List Sub) (t : UInt8) (hl : l.length ≤ 1000000) : AFn Tryd.prog Γ 38 [.c (.d (.lst 2 (l.map Sub.ds))), .c (.d (dB t))] [.d (.bool (l.any (·.code == t)))] := by
  refine AFn.of_body0 (n := 8) (res := [.tmp 4]) Tryd.func38 (by kernel_rfl) rfl Tryd.ntmps38 (by rw [Tryd.results38]) (by simp) ?_
  simp only [envOf, Nat.reduceAdd]
  refine AXc.seq fun K1 hK1 => ?_
  refine AXc.region' fun K2 hK2 => ?_
  refine AXl.box rfl (by decide : (3:Nat) < 8) ?_
  refine AXl.qt rfl (by decide : (4:Nat) < 8) (Still.qt (s_assign _)) ?_
  refine AXl.nm_b0 ?_
  refine AXl.nil ?_
  refine hK2 _ ?_
  clear hK2 K2
  refine Ethen.n ?_
  refine hK1 _ ?_
  clear hK1 K1
  refine AXc.seq fun K3 hK3 => ?_
  refine AXc.region' fun K4 hK4 => ?_
  refine AXl.qt rfl (by decide : (5:Nat) < 8) (Still.qt (s_move _)) ?_
  refine AXl.qt rfl (by decide : (6:Nat) < 8) (Still.qt (s_makeFunc' _ _ rfl)) ?_
  refine AXl.nm_b0 ?_
  refine AXl.qt rfl (by decide : (7:Nat) < 8) (q_call (c41 l (·.code == t) hl) (.cons (by first | exact ArgOk.d | exact ArgOk.bor rfl | exact ArgOk.agg rfl | exact ArgOk.agg (toDs_map _) | exact ArgOk.nil_bor | exact ArgOk.nil_lst | exact ArgOk.fn | exact ArgOk.ptr rfl rfl | exact ArgOk.aggn rfl (by repeat first | exact .nil | refine .cons (.refl _) ?_ | refine .cons (.nil _) ?_)) (.cons (ArgOk.clo (dss := [[dB t]]) (c42 (Γ := Γ) ⟨0, []⟩ 0).call rfl (fun a r h => by obtain ⟨x, rfl, rfl⟩ := h; exact c42 x t)) .nil))) ?_
  refine AXl.qt rfl (by decide : (4:Nat) < 8) (Still.qt (s_assign _)) ?_
  refine AXl.nm_b0 ?_
  refine AXl.nil ?_
  refine hK4 _ ?_
  clear hK4 K4
  refine Ethen.n ?_
  refine hK3 _ ?_
  clear hK3 K3
  refine AXc.ret ?_
  refine Fin.ret rfl rfl ?_
  rfl
/-- The contract of library rules.Find. -/
theorem c10 {Γ : List (Nat × List D)} (l : List TagRule) (t : Str) (hl : l.length ≤ 1000000) : AFn Tryd.prog Γ 10 [.c (.d (.lst 7 (l.map TagRule.ds))), .c (.d (.str t))] [.agg (getR l t).ds, .d (.bool (findR l t).isSome)] := by
  have hlt := fI_lt (fun x : TagRule => x.tag == t) l
  have hsp := fI_spec (fun x : TagRule => x.tag == t) l 0
  refine AFn.of_body0 (n := 17) (res := [.cell 4 29, .tmp 5]) Tryd.func10 (by kernel_rfl) rfl Tryd.ntmps10 (by rw [Tryd.results10]) (by simp) ?_
  simp only [envOf, Nat.reduceAdd]
  refine AXc.seq fun K1 hK1 => ?_
  refine AXc.region' fun K2 hK2 => ?_
  refine AXl.box rfl (by decide : (3:Nat) < 17) ?_
  refine AXl.alloc zC_29_b (by decide : (4:Nat) < 17) ?_
  refine AXl.qt rfl (by decide : (5:Nat) < 17) (Still.qt (s_assign _)) ?_
  refine AXl.nm_b0 ?_
  refine AXl.nil ?_
  refine hK2 _ ?_
  clear hK2 K2
  refine Ethen.n ?_
  refine hK1 _ ?_
  clear hK1 K1
  refine AXc.seq fun K3 hK3 => ?_
  refine AXc.region' fun K4 hK4 => ?_
  refine AXl.qt rfl (by decide : (7:Nat) < 17) (Still.qt (s_move _)) ?_
  refine AXl.qt rfl (by decide : (8:Nat) < 17) (Still.qt (s_makeFunc' _ _ rfl)) ?_
  refine AXl.nm_b0 ?_
  refine AXl.qt rfl (by decide : (9:Nat) < 17) (q_call (c21 l (fun x => x.tag == t) hl) (.cons (by first | exact ArgOk.d | exact ArgOk.bor rfl | exact ArgOk.agg rfl | exact ArgOk.agg (toDs_map _) | exact ArgOk.nil_bor | exact ArgOk.nil_lst | exact ArgOk.fn | exact ArgOk.ptr rfl rfl | exact ArgOk.aggn rfl (by repeat first | exact .nil | refine .cons (.refl _) ?_ | refine .cons (.nil _) ?_)) (.cons (ArgOk.clo (dss := [[.str t]]) (c22 (Γ := Γ) noRule []).call rfl (fun a r h => by obtain ⟨x, rfl, rfl⟩ := h; exact c22 x t)) .nil))) ?_
  refine AXl.qt rfl (by decide : (6:Nat) < 17) (Still.qt (s_assign _)) ?_
  refine AXl.nm_b0 ?_
  refine AXl.nil ?_
  refine hK4 _ ?_
  clear hK4 K4
  refine Ethen.n ?_
  refine hK3 _ ?_
  clear hK3 K3
  refine AXc.seq fun K5 hK5 => ?_
  refine AXc.seq fun K6 hK6 => ?_
  refine AXc.region' fun K7 hK7 => ?_
  refine AXl.qt rfl (by decide : (10:Nat) < 17) (Still.qt (s_move _)) ?_
  refine AXl.qt rfl (by decide : (11:Nat) < 17) (Still.qt (s_icmp _ _ _ _ _ rfl rfl rfl)) ?_
  refine AXl.nm_b0 ?_
  refine AXl.nil ?_
  refine hK7 _ ?_
  clear hK7 K7
  refine Ethen.n ?_
  refine hK6 _ ?_
  clear hK6 K6
  refine AXc.cond rfl (fun hc8 => ?_) (fun hc8 => ?_)
  · try simp only [decide_eq_true_eq, decide_eq_false_iff_not, Bool.not_eq_true', Bool.not_eq_false', Int.not_lt, Int.not_le, ne_eq, Decidable.not_not, bne_iff_ne, beq_iff_eq, Bool.and_eq_true, Bool.or_eq_true, Bool.and_eq_false_iff, Bool.or_eq_false_iff, Bool.not_not, Ax.u8eq] at hc8
    refine AXc.seq fun K9 hK9 => ?_
    refine AXc.region' fun K10 hK10 => ?_
    refine AXl.qt rfl (by decide : (12:Nat) < 17) (Still.qt (s_build _ _ plT_29_b zC_29_b rfl)) ?_
    refine AXl.nm_b0 ?_
    first
      | refine AXl.store rfl rfl rfl sz_29_b (by simp [Problem.ds, TagRule.ds, Fld.ds, Sub.ds, Rec.ds]) rfl ?_
      | refine AXl.store_row rfl rfl (by first | rfl | exact List.getElem?_eq_getElem (by omega)) rfl sz_29_b (by simp [Problem.ds, TagRule.ds, Fld.ds, Sub.ds, Rec.ds]) rfl ?_
    refine AXl.qt rfl (by decide : (5:Nat) < 17) (Still.qt (s_assign _)) ?_
    refine AXl.nm_b0 ?_
    refine AXl.nil ?_
    refine hK10 _ ?_
    clear hK10 K10
    refine Ethen.n ?_
    refine hK9 _ ?_
    clear hK9 K9
    refine AXc.ret ?_
    refine Ethen.r ?_
    clear hK5 K5
    refine Fin.ret rfl rfl ?_
    first
      | (rcases hsp with ⟨h1, h2⟩ | ⟨j, h1, h2, h3⟩
         · unfold getR findR; rw [h2]; rfl
         · exact absurd hc8 (by rw [h1]; omega))
      | (rcases hsp with ⟨h1, h2⟩ | ⟨j, h1, h2, h3⟩
         · exact absurd hc8 (by rw [h1]; decide)
         · have e : fI (fun x : TagRule => x.tag == t) 0 l = (j : Int) := by rw [h1]; simp
           unfold getR findR; rw [h3]; simp only [e, Int.toNat_natCast, Option.getD_some, Option.isSome_some]; rfl)
  · try simp only [decide_eq_true_eq, decide_eq_false_iff_not, Bool.not_eq_true', Bool.not_eq_false', Int.not_lt, Int.not_le, ne_eq, Decidable.not_not, bne_iff_ne, beq_iff_eq, Bool.and_eq_true, Bool.or_eq_true, Bool.and_eq_false_iff, Bool.or_eq_false_iff, Bool.not_not, Ax.u8eq] at hc8
    refine AXc.skip ?_
    refine Ethen.n ?_
    refine hK5 _ ?_
    clear hK5 K5
    refine AXc.seq fun K11 hK11 => ?_
    refine AXc.region' fun K12 hK12 => ?_
    refine AXl.qt rfl (by decide : (13:Nat) < 17) (Still.qt (s_move _)) ?_
    refine AXl.qt rfl (by decide : (14:Nat) < 17) (Still.qt (s_move _)) ?_
    first
      | refine AXl.qt rfl (by decide : (15:Nat) < 17) (Still.qt (s_index _ _ _ slT_22_b (.inl rfl) rfl rfl (by first | omega | (simp only [List.length_map, List.length_cons, List.length_nil, List.length_append, List.length_take, List.length_drop]; omega)) (List.getElem?_eq_getElem (by first | omega | (simp only [List.length_map, List.length_cons, List.length_nil, List.length_append, List.length_take, List.length_drop]; omega))))) ?_
      | refine AXl.qt rfl (by decide : (15:Nat) < 17) (Still.qt (s_index _ _ _ slT_22_b (.inr rfl) rfl rfl (by first | omega | (simp only [List.length_map, List.length_cons, List.length_nil, List.length_append, List.length_take, List.length_drop]; omega)) (List.getElem?_eq_getElem (by first | omega | (simp only [List.length_map, List.length_cons, List.length_nil, List.length_append, List.length_take, List.length_drop]; omega))))) ?_
      | refine AXl.qt rfl (by decide : (15:Nat) < 17) (Still.qt (s_index_own _ _ _ slT_22_b rfl rfl rfl rfl (by first | omega | (simp only [List.length_map, List.length_cons, List.length_nil, List.length_append, List.length_take, List.length_drop]; omega)) (by first | omega | (simp only [List.length_map, List.length_cons, List.length_nil, List.length_append, List.length_take, List.length_drop]; omega)))) ?_
    refine AXl.nm_b0 ?_
    first
      | refine AXl.qt rfl (by decide : (16:Nat) < 17) (Still.qt (s_loadN _ _ ldT_29_b rfl (by simp [Problem.ds, TagRule.ds, Fld.ds, Sub.ds, Rec.ds]))) ?_
      | refine AXl.qt rfl (by decide : (16:Nat) < 17) (Still.qt (s_loadN_row _ _ ldT_29_b rfl rfl (by first | rfl | exact List.getElem?_eq_getElem (by omega)) (by simp [Problem.ds, TagRule.ds, Fld.ds, Sub.ds, Rec.ds]))) ?_
    refine AXl.nm_b0 ?_
    first
      | refine AXl.store rfl rfl rfl sz_29_b (by simp [Problem.ds, TagRule.ds, Fld.ds, Sub.ds, Rec.ds]) rfl ?_
      | refine AXl.store_row rfl rfl (by first | rfl | exact List.getElem?_eq_getElem (by omega)) rfl sz_29_b (by simp [Problem.ds, TagRule.ds, Fld.ds, Sub.ds, Rec.ds]) rfl ?_
    refine AXl.qt rfl (by decide : (5:Nat) < 17) (Still.qt (s_assign _)) ?_
    refine AXl.nm_b0 ?_
    refine AXl.nil ?_
    refine hK12 _ ?_
    clear hK12 K12
    refine Ethen.n ?_
    refine hK11 _ ?_
    clear hK11 K11
    refine AXc.ret ?_
    refine Fin.ret rfl rfl ?_
    first
      | (rcases hsp with ⟨h1, h2⟩ | ⟨j, h1, h2, h3⟩
         · unfold getR findR; rw [h2]; rfl
         · exact absurd hc8 (by rw [h1]; omega))
      | (rcases hsp with ⟨h1, h2⟩ | ⟨j, h1, h2, h3⟩
         · exact absurd hc8 (by rw [h1]; decide)
         · have e : fI (fun x : TagRule => x.tag == t) 0 l = (j : Int) := by rw [h1]; simp
           unfold getR findR; rw [h3]; simp only [e, Int.toNat_natCast, Option.getD_some, Option.isSome_some]; rfl)
/-- The contract of internal stringslite.IndexByte. -/
theorem c40 {Γ : List (Nat × List D)} (l : Str) (c : UInt8) : AFn Tryd.prog Γ 40 [.c (.d (.str l)), .c (.d (dB c))] [.d (.int .i64 (Lib.indexByte l c))] := by
  refine AFn.of_body0 (n := 8) (res := [.tmp 4]) Tryd.func40 (by kernel_rfl) rfl Tryd.ntmps40 (by rw [Tryd.results40]) (by simp) ?_
  simp only [envOf, Nat.reduceAdd]
  refine AXc.seq fun K1 hK1 => ?_
  refine AXc.region' fun K2 hK2 => ?_
  refine AXl.qt rfl (by decide : (4:Nat) < 8) (Still.qt (s_assign _)) ?_
  refine AXl.nm_b0 ?_
  refine AXl.nil ?_
  refine hK2 _ ?_
  clear hK2 K2
  refine Ethen.n ?_
  refine hK1 _ ?_
  clear hK1 K1
  refine AXc.seq fun K3 hK3 => ?_
  refine AXc.region' fun K4 hK4 => ?_
  refine AXl.qt rfl (by decide : (5:Nat) < 8) (Still.qt (s_move _)) ?_
  refine AXl.qt rfl (by decide : (6:Nat) < 8) (Still.qt (s_move _)) ?_
  refine AXl.nm_b0 ?_
  refine AXl.qt rfl (by decide : (7:Nat) < 8) (Still.qt (s_indexByte Tryd.func43 (by kernel_rfl) rfl (by kernel_rfl) (by kernel_rfl) _ _ _ rfl rfl)) ?_
  refine AXl.qt rfl (by decide : (4:Nat) < 8) (Still.qt (s_assign _)) ?_
  refine AXl.nm_b0 ?_
  refine AXl.nil ?_
  refine hK4 _ ?_
  clear hK4 K4
  refine Ethen.n ?_
  refine hK3 _ ?_
  clear hK3 K3
  refine AXc.ret ?_
  refine Fin.ret rfl rfl ?_
  rfl
/-- The contract of strings.IndexByte. -/
theorem c37 {Γ : List (Nat × List D)} (l : Str) (c : UInt8) : AFn Tryd.prog Γ 37 [.c (.d (.str l)), .c (.d (dB c))] [.d (.int .i64 (Lib.indexByte l c))] := by
  refine AFn.of_body0 (n := 8) (res := [.tmp 4]) Tryd.func37 (by kernel_rfl) rfl Tryd.ntmps37 (by rw [Tryd.results37]) (by simp) ?_
  simp only [envOf, Nat.reduceAdd]
  refine AXc.seq fun K1 hK1 => ?_
  refine AXc.region' fun K2 hK2 => ?_
  refine AXl.qt rfl (by decide : (4:Nat) < 8) (Still.qt (s_assign _)) ?_
  refine AXl.nm_b0 ?_
  refine AXl.nil ?_
  refine hK2 _ ?_
  clear hK2 K2
  refine Ethen.n ?_
  refine hK1 _ ?_
  clear hK1 K1
  refine AXc.seq fun K3 hK3 => ?_
  refine AXc.region' fun K4 hK4 => ?_
  refine AXl.qt rfl (by decide : (5:Nat) < 8) (Still.qt (s_move _)) ?_
  refine AXl.qt rfl (by decide : (6:Nat) < 8) (Still.qt (s_move _)) ?_
  refine AXl.nm_b0 ?_
  refine AXl.qt rfl (by decide : (7:Nat) < 8) (q_call (c40 _ _) (.cons (by first | exact ArgOk.d | exact ArgOk.bor rfl | exact ArgOk.agg rfl | exact ArgOk.agg (toDs_map _) | exact ArgOk.nil_bor | exact ArgOk.nil_lst | exact ArgOk.fn | exact ArgOk.ptr rfl rfl | exact ArgOk.aggn rfl (by repeat first | exact .nil | refine .cons (.refl _) ?_ | refine .cons (.nil _) ?_)) (.cons (by first | exact ArgOk.d | exact ArgOk.bor rfl | exact ArgOk.agg rfl | exact ArgOk.agg (toDs_map _) | exact ArgOk.nil_bor | exact ArgOk.nil_lst | exact ArgOk.fn | exact ArgOk.ptr rfl rfl | exact ArgOk.aggn rfl (by repeat first | exact .nil | refine .cons (.refl _) ?_ | refine .cons (.nil _) ?_)) .nil))) ?_
  refine AXl.qt rfl (by decide : (4:Nat) < 8) (Still.qt (s_assign _)) ?_
  refine AXl.nm_b0 ?_
  refine AXl.nil ?_
  refine hK4 _ ?_
  clear hK4 K4
  refine Ethen.n ?_
  refine hK3 _ ?_
  clear hK3 K3
  refine AXc.ret ?_
  refine Fin.ret rfl rfl ?_
  rfl
end Go.Proofs
