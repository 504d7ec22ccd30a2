/- Part of a proof about this program; no condition of its own. -/
import Derived.Test.YticdcapnomageaaDoorGyF
import Derived.Test.YticdcapnomageaaDoorGxK
import Derived.Test.YticdcapnomageaaDoorGyE
set_option linter.all false
/- Walks of the chapter on partners, first part: small functions. No condition. -/
namespace Go.Proofs
open Go Go.Ax Go.Tx Go.Il
set_option maxRecDepth 100000
variable {Γ : List (Nat × List D)}
theorem c79 (r : Int) (h1 : -1000 ≤ r) (h2 : r ≤ 1000) : AFn Tryd.prog Γ 79 [.c (.d (.int .i64 r))] [.d (.int .i64 (3 - r))] := by
  refine AFn.vc [] Tryd.func79 rfl Tryd.mixed (by kernel_rfl) Tryd.ntmps79 Tryd.results79 (by simp) ?_
  push_cast
  exact ⟨by omega, by omega⟩
theorem c82 (r : Int) : AFn Tryd.prog Γ 82 [.c (.d (.int .i64 r))] [.d (.int .i64 (if r = 1 then 2 else 1))] := by
  refine AFn.vc [] Tryd.func82 rfl Tryd.mixed (by kernel_rfl) Tryd.ntmps82 Tryd.results82 (by simp) ?_
  push_cast
  exact ⟨fun h => by rw [if_pos h], fun h => by rw [if_neg h]⟩
theorem c80 (kind : Int) : AFn Tryd.prog Γ 80 [.c (.d (.int .i64 kind))] [.d (.int .i64 (ofF kind).role)] := by
  rcases of_cases kind with ⟨e, h⟩ | rfl | rfl | rfl | rfl | rfl | rfl | rfl | rfl | rfl | rfl | rfl
  · rw [e]
    have e1 := eq_false (show ¬ kind = 1 by omega)
    have e2 := eq_false (show ¬ kind = 2 by omega)
    have e3 := eq_false (show ¬ kind = 3 by omega)
    have e4 := eq_false (show ¬ kind = 4 by omega)
    have e5 := eq_false (show ¬ kind = 5 by omega)
    have e6 := eq_false (show ¬ kind = 6 by omega)
    have e7 := eq_false (show ¬ kind = 7 by omega)
    have e8 := eq_false (show ¬ kind = 8 by omega)
    have e9 := eq_false (show ¬ kind = 9 by omega)
    have e10 := eq_false (show ¬ kind = 10 by omega)
    have e11 := eq_false (show ¬ kind = 11 by omega)
    refine AFn.vc [] Tryd.func80 rfl Tryd.mixed (by kernel_rfl) Tryd.ntmps80 Tryd.results80 (by simp) ?_
    push_cast [e1, e2, e3, e4, e5, e6, e7, e8, e9, e10, e11]
    rfl
  all_goals
    refine AFn.vc [] Tryd.func80 rfl Tryd.mixed (by kernel_rfl) Tryd.ntmps80 Tryd.results80 (by simp) ?_
    push_cast
    rfl
theorem c83 (kind : Int) : AFn Tryd.prog Γ 83 [.c (.d (.int .i64 kind))] [.d (.int .i64 (ofF kind).role)] := by
  rcases of_cases kind with ⟨e, h⟩ | rfl | rfl | rfl | rfl | rfl | rfl | rfl | rfl | rfl | rfl | rfl
  · rw [e]
    have e1 := eq_false (show ¬ kind = 1 by omega)
    have e2 := eq_false (show ¬ kind = 2 by omega)
    have e3 := eq_false (show ¬ kind = 3 by omega)
    have e4 := eq_false (show ¬ kind = 4 by omega)
    have e5 := eq_false (show ¬ kind = 5 by omega)
    have e6 := eq_false (show ¬ kind = 6 by omega)
    have e7 := eq_false (show ¬ kind = 7 by omega)
    have e8 := eq_false (show ¬ kind = 8 by omega)
    have e9 := eq_false (show ¬ kind = 9 by omega)
    have e10 := eq_false (show ¬ kind = 10 by omega)
    have e11 := eq_false (show ¬ kind = 11 by omega)
    refine AFn.vc [] Tryd.func83 rfl Tryd.mixed (by kernel_rfl) Tryd.ntmps83 Tryd.results83 (by simp) ?_
    push_cast [e1, e2, e3, e4, e5, e6, e7, e8, e9, e10, e11]
    rfl
  all_goals
    refine AFn.vc [] Tryd.func83 rfl Tryd.mixed (by kernel_rfl) Tryd.ntmps83 Tryd.results83 (by simp) ?_
    push_cast
    rfl
theorem c103 (l : List Side) (hl : l.length ≤ 1000000) : AFn Tryd.prog Γ 103 [.c (.bor 9 (l.map Side.ds))] [.fresh 26 9 (l.map Side.ds)] := by
  refine AFn.vc [] Tryd.func103 rfl Tryd.mixed (by kernel_rfl) Tryd.ntmps103 Tryd.results103 (by simp) ?_
  push_cast
  exact ⟨fun _ => ⟨by omega, by omega⟩, fun h b => ⟨fun _ => h, fun _ => ⟨by omega, by omega⟩⟩⟩
theorem c89 (l : List Partner) (hl : l.length ≤ 1000000) : AFn Tryd.prog Γ 89 [.c (.bor 3 (l.map Partner.ds))] [.fresh 53 3 (l.map Partner.ds)] := by
  refine AFn.vc [] Tryd.func89 rfl Tryd.mixed (by kernel_rfl) Tryd.ntmps89 Tryd.results89 (by simp) ?_
  push_cast
  exact ⟨fun _ => ⟨by omega, by omega⟩, fun h b => ⟨fun _ => h, fun _ => ⟨by omega, by omega⟩⟩⟩
def predSd (p : Side → Bool) : List AV → List RV → Prop := fun a r => ∃ x : Side, a = [.agg (x.ds.map C.d)] ∧ r = [.d (.bool (p x))]
def predMs (p : Msg → Bool) : List AV → List RV → Prop := fun a r => ∃ x : Msg, a = [.agg (x.ds.map C.d)] ∧ r = [.d (.bool (p x))]
def predPt (p : Partner → Bool) : List AV → List RV → Prop := fun a r => ∃ x : Partner, a = [.agg (x.ds.map C.d)] ∧ r = [.d (.bool (p x))]
theorem c104 (l : List Side) (p : Side → Bool) (hl : l.length ≤ 1000000) : AFn Tryd.prog Γ 104 [.c (.bor 9 (l.map Side.ds)), .c (.fn (FnSpec Tryd.prog Γ (predSd p)))] [.d (.int .i64 (fI p 0 l))] := by
  refine AFn.vc [] Tryd.func104 rfl Tryd.mixed (by kernel_rfl) Tryd.ntmps104 Tryd.results104 (by simp) ?_
  push_cast
  refine LoopV.cnt Tryd.mixed [0, 1, 7] l.length (fun k => [(8, .c (.d (.int .i64 k)))]) (fun k => fI p k (l.drop k) = fI p 0 l) (by simp) ?_ (by push_cast)
  intro k hk hinv
  push_cast
  refine ⟨fun h => ⟨by omega, CallL.fn _ _ ⟨l[k], rfl, rfl⟩ ?_⟩, fun h => ?_⟩
  · push_cast
    refine ⟨fun a => ?_, fun a => ⟨by omega, by omega, ?_⟩⟩
    · rw [← hinv, drop_cons (by omega), fI, if_pos a]
    · rw [← hinv, drop_cons (show k < l.length by omega), fI, if_neg (by simp [a])]
  · rw [← hinv, drop_end (by omega)]; rfl
theorem c115 (l : List Msg) (p : Msg → Bool) (hl : l.length ≤ 1000000) : AFn Tryd.prog Γ 115 [.c (.bor 8 (l.map Msg.ds)), .c (.fn (FnSpec Tryd.prog Γ (predMs p)))] [.d (.int .i64 (fI p 0 l))] := by
  refine AFn.vc [] Tryd.func115 rfl Tryd.mixed (by kernel_rfl) Tryd.ntmps115 Tryd.results115 (by simp) ?_
  push_cast
  refine LoopV.cnt Tryd.mixed [0, 1, 7] l.length (fun k => [(8, .c (.d (.int .i64 k)))]) (fun k => fI p k (l.drop k) = fI p 0 l) (by simp) ?_ (by push_cast)
  intro k hk hinv
  push_cast
  refine ⟨fun h => ⟨by omega, CallL.fn _ _ ⟨l[k], rfl, rfl⟩ ?_⟩, fun h => ?_⟩
  · push_cast
    refine ⟨fun a => ?_, fun a => ⟨by omega, by omega, ?_⟩⟩
    · rw [← hinv, drop_cons (by omega), fI, if_pos a]
    · rw [← hinv, drop_cons (show k < l.length by omega), fI, if_neg (by simp [a])]
  · rw [← hinv, drop_end (by omega)]; rfl
theorem c87 (l : List Partner) (p : Partner → Bool) (hl : l.length ≤ 1000000) : AFn Tryd.prog Γ 87 [.c (.bor 3 (l.map Partner.ds)), .c (.fn (FnSpec Tryd.prog Γ (predPt p)))] [.d (.int .i64 (fI p 0 l))] := by
  refine AFn.vc [] Tryd.func87 rfl Tryd.mixed (by kernel_rfl) Tryd.ntmps87 Tryd.results87 (by simp) ?_
  push_cast
  refine LoopV.cnt Tryd.mixed [0, 1, 7] l.length (fun k => [(8, .c (.d (.int .i64 k)))]) (fun k => fI p k (l.drop k) = fI p 0 l) (by simp) ?_ (by push_cast)
  intro k hk hinv
  push_cast
  refine ⟨fun h => ⟨by omega, CallL.fn _ _ ⟨l[k], rfl, rfl⟩ ?_⟩, fun h => ?_⟩
  · push_cast
    refine ⟨fun a => ?_, fun a => ⟨by omega, by omega, ?_⟩⟩
    · rw [← hinv, drop_cons (by omega), fI, if_pos a]
    · rw [← hinv, drop_cons (show k < l.length by omega), fI, if_neg (by simp [a])]
  · rw [← hinv, drop_end (by omega)]; rfl
theorem c106 (l : List Msg) (p : Msg → Bool) (hl : l.length ≤ 1000000) : AFn Tryd.prog Γ 106 [.c (.bor 8 (l.map Msg.ds)), .c (.fn (FnSpec Tryd.prog Γ (predMs p)))] [.d (.bool (l.any p))] := by
  refine AFn.vc [] Tryd.func106 rfl Tryd.mixed (by kernel_rfl) Tryd.ntmps106 Tryd.results106 (by simp) ?_
  push_cast
  refine CallL.q (c115 l p hl) ?_
  push_cast
  exact fI_ge p l
theorem fI_find (p : Side → Bool) : ∀ (l : List Side) (k : Nat), fI p k l = if l.findIdx p < l.length then ((k + l.findIdx p : Nat) : Int) else -1
  | [], k => by simp [fI]
  | x :: r, k => by
    rw [fI, List.findIdx_cons]
    cases h : p x with
    | true => simp
    | false =>
      rw [fI_find p r]
      simp only [cond_false, List.length_cons, Bool.false_eq_true, if_false]
      by_cases hl : r.findIdx p < r.length
      · rw [if_pos hl, if_pos (by omega)]; congr 1; omega
      · rw [if_neg hl, if_neg (by omega)]
theorem fI_findP (p : Partner → Bool) : ∀ (l : List Partner) (k : Nat), fI p k l = if l.findIdx p < l.length then ((k + l.findIdx p : Nat) : Int) else -1
  | [], k => by simp [fI]
  | x :: r, k => by
    rw [fI, List.findIdx_cons]
    cases h : p x with
    | true => simp
    | false =>
      rw [fI_findP p r]
      simp only [cond_false, List.length_cons, Bool.false_eq_true, if_false]
      by_cases hl : r.findIdx p < r.length
      · rw [if_pos hl, if_pos (by omega)]; congr 1; omega
      · rw [if_neg hl, if_neg (by omega)]
theorem c105 (s : Side) (r p q : Int) : AFn Tryd.prog Γ 105 [.agg (s.ds.map C.d), .c (.ptr [.int .i64 r]), .c (.ptr [.int .i64 p]), .c (.ptr [.int .i64 q])] [.d (.bool (isSide r p q s))] := by
  refine AFn.vc [] Tryd.func105 rfl Tryd.mixed (by kernel_rfl) Tryd.ntmps105 Tryd.results105 (by simp) ?_
  push_cast
  unfold isSide
  by_cases h1 : s.role = r <;> by_cases h2 : s.ptn = p <;> by_cases h3 : s.req = q <;> simp [h1, h2, h3]
theorem c81 (l : List Side) (r p q : Int) (hl : l.length ≤ 1000000) : AFn Tryd.prog Γ 81 [.c (.bor 9 (l.map Side.ds)), .c (.d (.int .i64 r)), .c (.d (.int .i64 p)), .c (.d (.int .i64 q))] [.d (.int .i64 (findI l r p q))] := by
  refine AFn.vc [] Tryd.func81 rfl Tryd.mixed (by kernel_rfl) Tryd.ntmps81 Tryd.results81 (by simp) ?_
  push_cast
  refine CallL.q (c104 l (isSide r p q) hl) ?_ (.cons (ArgOk.bor rfl) (.cons (ArgOk.clo (dss := [[.int .i64 r], [.int .i64 p], [.int .i64 q]]) (c105 (Γ := []) side0 0 0 0).call rfl (fun a r h => by obtain ⟨x, rfl, rfl⟩ := h; exact c105 x _ _ _)) .nil))
  push_cast
  rw [fI_find]; simp only [Nat.zero_add]; rfl
theorem c84 (p : Partner) (r o q : Int) (hl : p.sides.length ≤ 1000000) : AFn Tryd.prog Γ 84 [.agg (p.ds.map C.d), .c (.d (.int .i64 r)), .c (.d (.int .i64 o)), .c (.d (.int .i64 q))] [.d (.int .i64 (findI p.sides r o q))] := by
  refine AFn.vc [] Tryd.func84 rfl Tryd.mixed (by kernel_rfl) Tryd.ntmps84 Tryd.results84 (by simp) ?_
  push_cast
  refine LoopV.cnt Tryd.mixed [1, 2, 3, 4] p.sides.length (fun k => [(9, .c (.d (.int .i64 k)))]) (fun k => ∀ j (hj : j < p.sides.length), j < k → isSide r o q p.sides[j] = false) (fun j hj h => by omega) ?_ (by push_cast)
  intro k hk hin
  push_cast
  refine ⟨fun h => ?_, fun h => ?_⟩
  · have hk' : k < p.sides.length := by omega
    have hT : isSide r o q p.sides[k] = true → (k : Int) = findI p.sides r o q := fun c => by
      unfold findI; rw [findN_of hk' c fun j hj => hin j (by omega) hj, if_pos hk']
    have hF : isSide r o q p.sides[k] = false → ∀ j (hj : j < p.sides.length), j < k + 1 → isSide r o q p.sides[j] = false := fun c j hj h => by
      by_cases e : j = k
      · subst e; exact c
      · exact hin j hj (by omega)
    refine ⟨hk', ?_⟩
    have hs : (isSide r o q p.sides[k] = true) = (p.sides[k].role = r ∧ p.sides[k].ptn = o ∧ p.sides[k].req = q) := by unfold isSide; rw [decide_eq_true_eq]
    have hb : -9223372036854775808 ≤ (k : Int) + 1 ∧ (k : Int) + 1 ≤ 9223372036854775807 := by omega
    rw [hs] at hT
    rw [← Bool.not_eq_true, hs] at hF
    exact ⟨fun a => ⟨fun b => ⟨fun c => hT ⟨a, b, c⟩, fun c => ⟨hb, hk', hF fun x => c x.2.2⟩⟩, fun b => ⟨hb, hk', hF fun x => b x.2.1⟩⟩, fun a => ⟨hb, hk', hF fun x => a x.1⟩⟩
  · unfold findI
    rw [if_neg]
    rw [findN_none fun j hj => hin j hj (by omega)]; omega
end Go.Proofs

/- Walks of the chapter on partners, second part: New, check, with and set. No condition. -/
namespace Go.Proofs
open Go Go.Ax Go.Tx Go.Il
set_option maxRecDepth 100000
variable {Γ : List (Nat × List D)}
theorem c57 (id : Int) : AFn Tryd.prog Γ 57 [.c (.d (.int .i64 id))] [.agg (newP id).ds, .d (.int .i64 (newE id))] := by
  refine AFn.vc [] Tryd.func57 rfl Tryd.mixed (by kernel_rfl) Tryd.ntmps57 Tryd.results57 (by simp) ?_
  push_cast
  have hT : 1 ≤ id → id ≤ 4 → newP id = ⟨id, 1, []⟩ ∧ newE id = 0 := fun h1 h2 => by unfold newP newE; rw [inB_iff.2 ⟨h1, h2⟩]; exact ⟨rfl, rfl⟩
  have hF : ¬ (1 ≤ id ∧ id ≤ 4) → newP id = partner0 ∧ newE id = 2 := fun h => by
    have : inB id 1 4 = false := by rw [← Bool.not_eq_true, inB_iff]; exact h
    unfold newP newE; rw [this]; exact ⟨rfl, rfl⟩
  refine ⟨fun h1 => ⟨fun h2 => ?_, fun h2 => ?_⟩, fun h1 => ?_⟩
  · obtain ⟨e1, e2⟩ := hF (by omega)
    rw [e1, e2]; exact ⟨⟨rfl, rfl, rfl⟩, rfl⟩
  · obtain ⟨e1, e2⟩ := hT h1 h2
    rw [e1, e2]; exact ⟨⟨rfl, rfl, rfl⟩, rfl⟩
  · obtain ⟨e1, e2⟩ := hF (by omega)
    rw [e1, e2]; exact ⟨⟨rfl, rfl, rfl⟩, rfl⟩
theorem c58 (id : Int) : AFn Tryd.prog Γ 58 [.c (.d (.int .i64 id))] [.agg (newP id).ds, .d (.int .i64 (newE id))] := by
  refine AFn.vc [] Tryd.func58 rfl Tryd.mixed (by kernel_rfl) Tryd.ntmps58 Tryd.results58 (by simp) ?_
  push_cast
  have hT : 1 ≤ id → id ≤ 4 → newP id = ⟨id, 1, []⟩ ∧ newE id = 0 := fun h1 h2 => by unfold newP newE; rw [inB_iff.2 ⟨h1, h2⟩]; exact ⟨rfl, rfl⟩
  have hF : ¬ (1 ≤ id ∧ id ≤ 4) → newP id = partner0 ∧ newE id = 2 := fun h => by
    have : inB id 1 4 = false := by rw [← Bool.not_eq_true, inB_iff]; exact h
    unfold newP newE; rw [this]; exact ⟨rfl, rfl⟩
  refine ⟨fun h1 => ⟨fun h2 => ?_, fun h2 => ?_⟩, fun h1 => ?_⟩
  · obtain ⟨e1, e2⟩ := hF (by omega)
    rw [e1, e2]; exact ⟨⟨rfl, rfl, rfl⟩, rfl⟩
  · obtain ⟨e1, e2⟩ := hT h1 h2
    rw [e1, e2]; exact ⟨⟨rfl, rfl, rfl⟩, rfl⟩
  · obtain ⟨e1, e2⟩ := hF (by omega)
    rw [e1, e2]; exact ⟨⟨rfl, rfl, rfl⟩, rfl⟩
theorem c107 (m : Msg) (p : Partner) : AFn Tryd.prog Γ 107 [.agg (m.ds.map C.d), .c (.ptr p.ds)] [.d (.bool (decide (m.frm ≠ p.id)))] := by
  refine AFn.vc [] Tryd.func107 rfl Tryd.mixed (by kernel_rfl) Tryd.ntmps107 Tryd.results107 (by simp) ?_
  push_cast
theorem c108 (m : Msg) (p : Partner) : AFn Tryd.prog Γ 108 [.agg (m.ds.map C.d), .c (.ptr p.ds)] [.d (.bool (decide (m.dst ≠ p.id)))] := by
  refine AFn.vc [] Tryd.func108 rfl Tryd.mixed (by kernel_rfl) Tryd.ntmps108 Tryd.results108 (by simp) ?_
  push_cast
theorem c91 (p : Partner) (s : Side) (hs : SmN s) : AFn Tryd.prog Γ0 91 [.agg (p.ds.map C.d), .agg (s.ds.map C.d)] [.d (.int .i64 (checkF p.id p.next s))] := by
  refine AFn.vc [] Tryd.func91 rfl Tryd.mixed (by kernel_rfl) Tryd.ntmps91 Tryd.results91 (by simp) ?_
  have l1 := hs.l1
  have l2 := hs.l2
  push_cast
  refine CallL.q (c26 s hs) ?_
  push_cast
  refine ⟨fun h1 => ?_, fun h1 => ?_⟩
  · unfold checkF; rw [decide_eq_true (show sideF s ≠ 0 from h1)]; rfl
  have e0 : checkF p.id p.next s = bif decide (s.ptn = p.id) || decide (s.role = 1 ∧ p.next ≤ s.req) then 1 else bif s.sent.any (fun m => decide (m.frm ≠ p.id)) || s.early.any (fun m => decide (m.dst ≠ p.id)) then 1 else 0 := by
    unfold checkF; rw [decide_eq_false (show ¬ sideF s ≠ 0 from fun h => h h1)]; rfl
  have hA : s.ptn = p.id ∨ (s.role = 1 ∧ p.next ≤ s.req) → 1 = checkF p.id p.next s := fun h => by
    rw [e0, show (decide (s.ptn = p.id) || decide (s.role = 1 ∧ p.next ≤ s.req)) = true by simpa using h]; rfl
  have hB : ¬ s.ptn = p.id → ¬ (s.role = 1 ∧ p.next ≤ s.req) → checkF p.id p.next s = bif s.sent.any (fun m => decide (m.frm ≠ p.id)) || s.early.any (fun m => decide (m.dst ≠ p.id)) then 1 else 0 := fun h h' => by
    rw [e0, decide_eq_false h, decide_eq_false h']; rfl
  by_cases h2 : s.ptn = p.id
  · have e2 : (s.ptn = p.id) = True := eq_true h2
    push_cast [e2]
    exact hA (.inl h2)
  have e2 : (s.ptn = p.id) = False := eq_false h2
  by_cases h3 : s.role = 1 <;> by_cases h4 : p.next ≤ s.req
  · have e3 : (s.role = 1) = True := eq_true h3
    have e4 : (p.next ≤ s.req) = True := eq_true h4
    have e5 : (s.req < p.next) = False := eq_false (by omega)
    push_cast [e2, e3, e4, e5]
    exact hA (.inr ⟨h3, h4⟩)
  all_goals
    first | have e3 : (s.role = 1) = True := eq_true h3 | have e3 : (s.role = 1) = False := eq_false h3
    first | have e4 : (p.next ≤ s.req) = True := eq_true h4 | have e4 : (p.next ≤ s.req) = False := eq_false h4
    first | have e5 : (s.req < p.next) = False := eq_false (by omega) | have e5 : (s.req < p.next) = True := eq_true (by omega)
    push_cast [e2, e3, e4, e5]
    rw [hB h2 (fun x => by first | exact h3 x.1 | exact h4 x.2)]
    refine CallL.q (c106 s.sent (fun m => decide (m.frm ≠ p.id)) (by omega)) ?_ (.cons (ArgOk.bor rfl) (.cons (ArgOk.clo (dss := [p.ds]) (c107 (Γ := []) msg0 partner0).call rfl (fun a r h => by obtain ⟨x, rfl, rfl⟩ := h; exact c107 x _)) .nil))
    push_cast
    refine ⟨fun h => by rw [h]; rfl, fun h => ?_⟩
    refine CallL.q (c106 s.early (fun m => decide (m.dst ≠ p.id)) (by omega)) ?_ (.cons (ArgOk.bor rfl) (.cons (ArgOk.clo (dss := [p.ds]) (c108 (Γ := []) msg0 partner0).call rfl (fun a r h => by obtain ⟨x, rfl, rfl⟩ := h; exact c108 x _)) .nil))
    push_cast
    rw [h]
    exact ⟨fun h => by rw [h]; rfl, fun h => by rw [h]; rfl⟩
theorem take_next {α : Type} (l : List α) (k : Nat) (h : k < l.length) (x : α) (e : l[k] = x) : l.take k ++ [x] = l.take (k + 1) := by
  rw [List.take_add_one, List.getElem?_eq_getElem h, e]; rfl
theorem c77 (p : Partner) (i : Nat) (s : Side) (hi : i ≤ p.sides.length) (hl : p.sides.length ≤ 100000) : AFn Tryd.prog Γ 77 [.agg (p.ds.map C.d), .c (.d (.int .i64 i)), .agg (s.ds.map C.d)] [.agg (setF p i s).ds] := by
  refine AFn.vc [] Tryd.func77 rfl Tryd.mixed (by kernel_rfl) Tryd.ntmps77 Tryd.results77 (by simp) ?_
  push_cast
  refine CallL.own (c103 p.sides (by omega)) ?_
  push_cast
  refine ⟨fun h => ?_, fun h => ?_⟩
  · obtain rfl : i = p.sides.length := by omega
    refine ⟨⟨by omega, by omega⟩, rfl, rfl, ?_⟩
    show _ = List.map Side.ds (setL p.sides p.sides.length s)
    rw [setL_end, List.map_append]; rfl
  · refine ⟨by omega, by omega, rfl, rfl, ?_⟩
    show _ = List.map Side.ds (setL p.sides i s)
    rw [setL_lt (by omega), List.map_set]; rfl
theorem c78 (p : Partner) (i : Nat) (s : Side) (hi : i ≤ p.sides.length) (hl : p.sides.length ≤ 100000) : AFn Tryd.prog Γ 78 [.agg (p.ds.map C.d), .c (.d (.int .i64 i)), .agg (s.ds.map C.d)] [.agg (setF p i s).ds] := by
  refine AFn.vc [] Tryd.func78 rfl Tryd.mixed (by kernel_rfl) Tryd.ntmps78 Tryd.results78 (by simp) ?_
  push_cast
  refine LoopV.nilrow 7 26 9 ?_
  push_cast
  refine LoopV.cntH Tryd.mixed [1, 3, 5, 6] p.sides.length (fun k => [(7, .c (.own 3 k)), (8, .c (.d (.int .i64 k)))]) (fun k => [.box 53 (p.ds.map C.d), .box 26 (s.ds.map C.d), .box 53 [.d (.int .i64 0), .d (.int .i64 0), .d (.raw (.slice none 0 0))], .row 26 9 (((p.sides.set i s).take k).map Side.ds) k]) (fun _ => True) trivial ?_ (by push_cast)
  intro k hk _
  push_cast
  have hset : (p.sides.set i s).length = p.sides.length := by simp
  have step : ∀ x : Side, (hk' : k < p.sides.length) → (p.sides.set i s)[k]'(by omega) = x → List.map Side.ds ((p.sides.set i s).take k) ++ [x.ds] = List.map Side.ds ((p.sides.set i s).take (k + 1)) := fun x hk' e => by
    rw [← take_next _ k (by omega) x e, List.map_append]; rfl
  refine ⟨fun h => ⟨fun h' => ⟨⟨by omega, by omega⟩, ⟨by omega, by omega⟩, by omega, step s (by omega) ?_⟩, fun h' => ⟨by omega, ⟨by omega, by omega⟩, ⟨by omega, by omega⟩, by omega, step _ (by omega) ?_⟩⟩, fun h => ?_⟩
  · rw [List.getElem_set, if_pos (by omega)]
  · rw [List.getElem_set, if_neg (by omega)]
  rw [List.take_of_length_le (by omega)]
  refine ⟨fun h' => ⟨⟨by omega, by omega⟩, rfl, rfl, ?_⟩, fun h' => ⟨rfl, rfl, ?_⟩⟩
  · show _ = List.map Side.ds (setL p.sides i s)
    obtain rfl : i = p.sides.length := by omega
    rw [setL_end, List.map_append, List.set_eq_of_length_le (Nat.le_refl _)]; rfl
  · show _ = List.map Side.ds (setL p.sides i s)
    rw [setL_lt (by omega)]
end Go.Proofs

/- Walks of the chapter on partners, third part: Ask. No condition. -/
namespace Go.Proofs
open Go Go.Ax Go.Tx Go.Il
set_option maxRecDepth 100000
variable {Γ : List (Nat × List D)}
theorem c40 (p : Partner) (ot rc dy : Int) (hl : p.sides.length ≤ 1000) (hn : 0 ≤ p.next) (hn2 : p.next ≤ 100000) :
    AFn Tryd.prog Γ 40 [.agg (p.ds.map C.d), .c (.d (.int .i64 ot)), .c (.d (.int .i64 rc)), .c (.d (.int .i64 dy))] [.agg (pAskP p ot rc dy).ds, .agg (pAskM p ot rc dy).ds, .d (.int .i64 (pAskE p ot rc dy))] := by
  refine AFn.vc [1000008] Tryd.func40 rfl Tryd.mixed (by kernel_rfl) Tryd.ntmps40 Tryd.results40 (by simp) ?_
  push_cast
  have hF : pAskE p ot rc dy ≠ 0 → pAskP p ot rc dy = partner0 ∧ pAskM p ot rc dy = msg0 := fun c => ⟨by unfold pAskP; rw [decide_eq_false c]; rfl, by unfold pAskM; rw [decide_eq_false c]; rfl⟩
  refine CallL.q (c30 p.id p.next ot rc dy) ?_
  push_cast
  refine ⟨fun h1 => ?_, fun h1 => ?_⟩
  · have e : pAskE p ot rc dy = askE p.id p.next ot rc dy := by unfold pAskE; rw [decide_eq_true (show askE p.id p.next ot rc dy ≠ 0 from h1)]; rfl
    obtain ⟨e1, e2⟩ := hF (by rw [e]; exact h1)
    rw [e, e1, e2]
    exact ⟨⟨rfl, rfl, rfl⟩, ⟨rfl, rfl, rfl, rfl, rfl, rfl, rfl, rfl⟩, rfl⟩
  have eR : askR p.id p.next ot rc dy = askS p.id p.next ot rc dy := by unfold askR; rw [decide_eq_true h1]; rfl
  have eN : askN p.id p.next ot rc dy = askM p.id p.next ot rc dy := by unfold askN; rw [decide_eq_true h1]; rfl
  refine ⟨fun h2 => ?_, fun h2 => ?_⟩
  · have e : pAskE p ot rc dy = 13 := by unfold pAskE; rw [h1, decide_eq_false (show ¬ (0 : Int) ≠ 0 from fun h => h rfl), decide_eq_true (show 32 ≤ p.sides.length by omega)]; rfl
    obtain ⟨e1, e2⟩ := hF (by omega)
    rw [e, e1, e2]
    exact ⟨⟨rfl, rfl, rfl⟩, ⟨rfl, rfl, rfl, rfl, rfl, rfl, rfl, rfl⟩, rfl⟩
  have e : pAskE p ot rc dy = 0 := by unfold pAskE; rw [h1, decide_eq_false (show ¬ (0 : Int) ≠ 0 from fun h => h rfl), decide_eq_false (show ¬ 32 ≤ p.sides.length by omega)]; rfl
  have e2 : pAskM p ot rc dy = askM p.id p.next ot rc dy := by unfold pAskM; rw [decide_eq_true e]; rfl
  obtain ⟨s, hs⟩ : ∃ s, askS p.id p.next ot rc dy = s := ⟨_, rfl⟩
  obtain ⟨m, hm⟩ : ∃ m, askM p.id p.next ot rc dy = m := ⟨_, rfl⟩
  obtain ⟨q, hq⟩ : ∃ q, setF p p.sides.length s = q := ⟨_, rfl⟩
  have hqn : q.next = p.next := by rw [← hq]; rfl
  have e1 : pAskP p ot rc dy = ⟨q.id, q.next + 1, q.sides⟩ := by
    rw [← hq]
    unfold pAskP; rw [decide_eq_true e, hs]
    show (⟨p.id, p.next + 1, p.sides ++ [s]⟩ : Partner) = ⟨p.id, p.next + 1, setL p.sides p.sides.length s⟩
    rw [setL_end]
  rw [eR, eN, e, e1, e2, hs, hm]
  refine CallL.q (c77 p p.sides.length s (Nat.le_refl _) (by omega)) ?_
  rw [hq]
  push_cast
  refine ⟨⟨by omega, by omega⟩, ?_⟩
  refine RegV.tab (E := [1000008]) Tryd.mixed tab30 [some (48, .agg (Partner.ds ⟨q.id, q.next + 1, q.sides⟩ |>.map C.d)), some (49, .agg (m.ds.map C.d)), none, none, some (10, .c (.d (.int .i64 0)))]
    [none, none, some [.box 53 (p.ds.map C.d), .box 53 (Partner.ds ⟨q.id, q.next + 1, q.sides⟩ |>.map C.d), .box 28 (msg0.ds.map C.d), .box 26 (s.ds.map C.d), .box 28 (m.ds.map C.d), .box 53 (Partner.ds ⟨q.id, q.next + 1, q.sides⟩ |>.map C.d)], some [.box 53 (p.ds.map C.d), .box 53 (Partner.ds ⟨q.id, q.next + 1, q.sides⟩ |>.map C.d), .box 28 (m.ds.map C.d), .box 26 (s.ds.map C.d), .box 28 (m.ds.map C.d), .box 53 (Partner.ds ⟨q.id, q.next + 1, q.sides⟩ |>.map C.d)], none] (by kernel_rfl) (by kernel_rfl) rfl ?_ ?_
  · push_cast [tab30, msg0]
  · push_cast [msg0]
theorem c41 (p : Partner) (ot rc dy : Int) (hl : p.sides.length ≤ 1000) (hn : 0 ≤ p.next) (hn2 : p.next ≤ 100000) :
    AFn Tryd.prog Γ 41 [.agg (p.ds.map C.d), .c (.d (.int .i64 ot)), .c (.d (.int .i64 rc)), .c (.d (.int .i64 dy))] [.agg (pAskP p ot rc dy).ds, .agg (pAskM p ot rc dy).ds, .d (.int .i64 (pAskE p ot rc dy))] := by
  refine AFn.vc [1000008] Tryd.func41 rfl Tryd.mixed (by kernel_rfl) Tryd.ntmps41 Tryd.results41 (by simp) ?_
  push_cast
  have hF : pAskE p ot rc dy ≠ 0 → pAskP p ot rc dy = partner0 ∧ pAskM p ot rc dy = msg0 := fun c => ⟨by unfold pAskP; rw [decide_eq_false c]; rfl, by unfold pAskM; rw [decide_eq_false c]; rfl⟩
  refine CallL.q (c31 p.id p.next ot rc dy) ?_
  push_cast
  refine ⟨fun h1 => ?_, fun h1 => ?_⟩
  · have e : pAskE p ot rc dy = askE p.id p.next ot rc dy := by unfold pAskE; rw [decide_eq_true (show askE p.id p.next ot rc dy ≠ 0 from h1)]; rfl
    obtain ⟨e1, e2⟩ := hF (by rw [e]; exact h1)
    rw [e, e1, e2]
    exact ⟨⟨rfl, rfl, rfl⟩, ⟨rfl, rfl, rfl, rfl, rfl, rfl, rfl, rfl⟩, rfl⟩
  have eR : askR p.id p.next ot rc dy = askS p.id p.next ot rc dy := by unfold askR; rw [decide_eq_true h1]; rfl
  have eN : askN p.id p.next ot rc dy = askM p.id p.next ot rc dy := by unfold askN; rw [decide_eq_true h1]; rfl
  refine ⟨fun h2 => ?_, fun h2 => ?_⟩
  · have e : pAskE p ot rc dy = 13 := by unfold pAskE; rw [h1, decide_eq_false (show ¬ (0 : Int) ≠ 0 from fun h => h rfl), decide_eq_true (show 32 ≤ p.sides.length by omega)]; rfl
    obtain ⟨e1, e2⟩ := hF (by omega)
    rw [e, e1, e2]
    exact ⟨⟨rfl, rfl, rfl⟩, ⟨rfl, rfl, rfl, rfl, rfl, rfl, rfl, rfl⟩, rfl⟩
  have e : pAskE p ot rc dy = 0 := by unfold pAskE; rw [h1, decide_eq_false (show ¬ (0 : Int) ≠ 0 from fun h => h rfl), decide_eq_false (show ¬ 32 ≤ p.sides.length by omega)]; rfl
  have e2 : pAskM p ot rc dy = askM p.id p.next ot rc dy := by unfold pAskM; rw [decide_eq_true e]; rfl
  obtain ⟨s, hs⟩ : ∃ s, askS p.id p.next ot rc dy = s := ⟨_, rfl⟩
  obtain ⟨m, hm⟩ : ∃ m, askM p.id p.next ot rc dy = m := ⟨_, rfl⟩
  obtain ⟨q, hq⟩ : ∃ q, setF p p.sides.length s = q := ⟨_, rfl⟩
  have hqn : q.next = p.next := by rw [← hq]; rfl
  have e1 : pAskP p ot rc dy = ⟨q.id, q.next + 1, q.sides⟩ := by
    rw [← hq]
    unfold pAskP; rw [decide_eq_true e, hs]
    show (⟨p.id, p.next + 1, p.sides ++ [s]⟩ : Partner) = ⟨p.id, p.next + 1, setL p.sides p.sides.length s⟩
    rw [setL_end]
  rw [eR, eN, e, e1, e2, hs, hm]
  refine CallL.q (c78 p p.sides.length s (Nat.le_refl _) (by omega)) ?_
  rw [hq]
  push_cast
  refine ⟨⟨by omega, by omega⟩, ?_⟩
  refine RegV.tab (E := [1000008]) Tryd.mixed tab30 [some (47, .agg (Partner.ds ⟨q.id, q.next + 1, q.sides⟩ |>.map C.d)), some (48, .agg (m.ds.map C.d)), none, none, some (10, .c (.d (.int .i64 0)))]
    [none, none, some [.box 53 (Partner.ds ⟨q.id, q.next + 1, q.sides⟩ |>.map C.d), .box 53 (Partner.ds ⟨q.id, q.next + 1, q.sides⟩ |>.map C.d), .box 28 (msg0.ds.map C.d), .box 26 (s.ds.map C.d), .box 28 (m.ds.map C.d)], some [.box 53 (Partner.ds ⟨q.id, q.next + 1, q.sides⟩ |>.map C.d), .box 53 (Partner.ds ⟨q.id, q.next + 1, q.sides⟩ |>.map C.d), .box 28 (m.ds.map C.d), .box 26 (s.ds.map C.d), .box 28 (m.ds.map C.d)], none] (by kernel_rfl) (by kernel_rfl) rfl ?_ ?_
  · push_cast [tab30, msg0]
  · push_cast [msg0]
end Go.Proofs

/- Walks of the chapter on partners, fifth part: Agree and Same. No condition. -/
namespace Go.Proofs
open Go Go.Ax Go.Tx Go.Il
set_option maxRecDepth 100000
variable {Γ : List (Nat × List D)}
theorem differ_yes {s t : Side} (x : s.heard = t.sent.length) (y : t.heard = s.sent.length) (z : ¬ (s.state = t.state ∧ s.rcd = t.rcd ∧ s.due = t.due)) : (!Go.Il.differ s t) = false := by
  have h : Go.Il.differ s t = (decide (s.state ≠ t.state) || decide (s.rcd ≠ t.rcd) || decide (s.due ≠ t.due)) := by
    unfold Go.Il.differ
    rw [decide_eq_true (show s.heard = t.sent.length ∧ t.heard = s.sent.length from ⟨x, y⟩), Bool.true_and]
  rw [h]
  by_cases z1 : s.state = t.state
  · by_cases z2 : s.rcd = t.rcd
    · by_cases z3 : s.due = t.due
      · exact absurd ⟨z1, z2, z3⟩ z
      · simp [z3]
    · simp [z2]
  · simp [z1]
theorem c85 (a b : Partner) (hr : ∀ s ∈ a.sides, s.role = 1 ∨ s.role = 2) (ha : a.sides.length ≤ 100000) (hb : b.sides.length ≤ 100000) : AFn Tryd.prog Γ 85 [.agg (a.ds.map C.d), .agg (b.ds.map C.d)] [.d (.bool (fitsP a b))] := by
  refine AFn.vc [] Tryd.func85 rfl Tryd.mixed (by kernel_rfl) Tryd.ntmps85 Tryd.results85 (by simp) ?_
  push_cast
  refine LoopV.cnt Tryd.mixed [2, 3, 10, 11] a.sides.length (fun k => [(12, .c (.d (.int .i64 k)))]) (fun k => (a.sides.drop k).all (fitAt a b) = fitsP a b) rfl ?_ (by push_cast)
  intro k hk hinv
  push_cast
  refine ⟨fun h => ⟨by omega, fun h1 => ?_, fun h1 => ?_⟩, fun h => ?_⟩
  · refine ⟨⟨by omega, by omega⟩, by omega, ?_⟩
    rw [← hinv, drop_cons (show k < a.sides.length by omega), List.all_cons]
    have : fitAt a b a.sides[k] = true := by unfold fitAt; rw [decide_eq_true h1]; rfl
    rw [this, Bool.true_and]
  · have hk' : k < a.sides.length := by omega
    have hrole := hr _ (List.getElem_mem hk')
    refine CallX.q (c79 a.sides[k].role (by omega) (by omega)) ?_
    push_cast
    refine CallX.q (c81 b.sides _ _ _ (by omega)) ?_
    have hnext : fitAt a b a.sides[k] = true → (-9223372036854775808 ≤ (k : Int) + 1 ∧ (k : Int) + 1 ≤ 9223372036854775807) ∧ k < a.sides.length ∧ (List.drop (k + 1) a.sides).all (fitAt a b) = fitsP a b := fun e => by
      refine ⟨⟨by omega, by omega⟩, hk', ?_⟩
      rw [← hinv, drop_cons hk', List.all_cons, e, Bool.true_and]
    have hend : fitAt a b a.sides[k] = false → false = fitsP a b := fun e => by
      rw [← hinv, drop_cons hk', List.all_cons, e, Bool.false_and]
    have hfit : fitAt a b a.sides[k] = (decide (findN b.sides (3 - a.sides[k].role) a.id a.sides[k].req < b.sides.length) && !Go.Il.differ a.sides[k] (b.sides.getD (findN b.sides (3 - a.sides[k].role) a.id a.sides[k].req) side0)) := by
      unfold fitAt; rw [decide_eq_false (fun x => x h1)]; rfl
    unfold findI
    revert hfit
    generalize findN b.sides (3 - a.sides[k].role) a.id a.sides[k].req = f
    intro hfit
    by_cases hf : f < b.sides.length
    · rw [if_pos hf]
      push_cast
      rw [List.getD_eq_getElem?_getD, List.getElem?_eq_getElem hf, decide_eq_true hf, Bool.true_and] at hfit
      simp only [Option.getD_some] at hfit
      have hT : ¬ (a.sides[k].heard = b.sides[f].sent.length ∧ b.sides[f].heard = a.sides[k].sent.length ∧ ¬ (a.sides[k].state = b.sides[f].state ∧ a.sides[k].rcd = b.sides[f].rcd ∧ a.sides[k].due = b.sides[f].due)) → fitAt a b a.sides[k] = true := fun c => by
        rw [hfit, differ_not (s := a.sides[k]) (t := b.sides[f]) (fun x y => Decidable.not_not.1 fun z => c ⟨x, y, z⟩)]; rfl
      have hF : a.sides[k].heard = b.sides[f].sent.length → b.sides[f].heard = a.sides[k].sent.length → ¬ (a.sides[k].state = b.sides[f].state ∧ a.sides[k].rcd = b.sides[f].rcd ∧ a.sides[k].due = b.sides[f].due) → false = fitsP a b := fun x y z => hend (by
        rw [hfit]
        exact differ_yes x y z)
      exact ⟨fun x => by omega, hf, fun x => ⟨fun y => ⟨fun z1 => ⟨fun z2 => ⟨fun z3 => hF x y fun z => z3 z.2.2, fun z3 => hnext (hT fun z => z.2.2 ⟨z1, z2, z3⟩)⟩, fun z2 => hF x y fun z => z2 z.2.1⟩, fun z1 => hF x y fun z => z1 z.1⟩, fun y => hnext (hT fun z => y z.2.1)⟩, fun x => hnext (hT fun z => x z.1)⟩
    · rw [if_neg hf]
      push_cast
      exact hend (by rw [hfit, decide_eq_false hf]; rfl)
  · rw [← hinv, List.drop_eq_nil_of_le (by omega)]; rfl
theorem c82' (r : Int) (h : r = 1 ∨ r = 2) : AFn Tryd.prog Γ 82 [.c (.d (.int .i64 r))] [.d (.int .i64 (3 - r))] := by
  rcases h with rfl | rfl
  · exact c82 1
  · exact c82 2
theorem c86 (a b : Partner) (hr : ∀ s ∈ a.sides, s.role = 1 ∨ s.role = 2) (ha : a.sides.length ≤ 100000) (hb : b.sides.length ≤ 100000) : AFn Tryd.prog Γ 86 [.agg (a.ds.map C.d), .agg (b.ds.map C.d)] [.d (.bool (fitsP a b))] := by
  refine AFn.vc [] Tryd.func86 rfl Tryd.mixed (by kernel_rfl) Tryd.ntmps86 Tryd.results86 (by simp) ?_
  push_cast
  refine LoopV.cnt Tryd.mixed [2, 3] a.sides.length (fun k => [(5, .c (.d (.int .i64 k)))]) (fun k => (a.sides.drop k).all (fitAt a b) = fitsP a b) rfl ?_ (by push_cast)
  intro k hk hinv
  push_cast
  refine ⟨fun h => ⟨by omega, fun h1 => ?_, fun h1 => ?_⟩, fun h => ?_⟩
  · refine ⟨⟨by omega, by omega⟩, by omega, ?_⟩
    rw [← hinv, drop_cons (show k < a.sides.length by omega), List.all_cons]
    have : fitAt a b a.sides[k] = true := by unfold fitAt; rw [decide_eq_true h1]; rfl
    rw [this, Bool.true_and]
  · have hk' : k < a.sides.length := by omega
    have hrole := hr _ (List.getElem_mem hk')
    refine CallX.q (c82' a.sides[k].role hrole) ?_
    push_cast
    refine CallX.q (c84 b _ _ _ (by omega)) ?_
    have hnext : fitAt a b a.sides[k] = true → (-9223372036854775808 ≤ (k : Int) + 1 ∧ (k : Int) + 1 ≤ 9223372036854775807) ∧ k < a.sides.length ∧ (List.drop (k + 1) a.sides).all (fitAt a b) = fitsP a b := fun e => by
      refine ⟨⟨by omega, by omega⟩, hk', ?_⟩
      rw [← hinv, drop_cons hk', List.all_cons, e, Bool.true_and]
    have hend : fitAt a b a.sides[k] = false → false = fitsP a b := fun e => by
      rw [← hinv, drop_cons hk', List.all_cons, e, Bool.false_and]
    have hfit : fitAt a b a.sides[k] = (decide (findN b.sides (3 - a.sides[k].role) a.id a.sides[k].req < b.sides.length) && !Go.Il.differ a.sides[k] (b.sides.getD (findN b.sides (3 - a.sides[k].role) a.id a.sides[k].req) side0)) := by
      unfold fitAt; rw [decide_eq_false (fun x => x h1)]; rfl
    unfold findI
    revert hfit
    generalize findN b.sides (3 - a.sides[k].role) a.id a.sides[k].req = f
    intro hfit
    by_cases hf : f < b.sides.length
    · rw [if_pos hf]
      push_cast
      rw [List.getD_eq_getElem?_getD, List.getElem?_eq_getElem hf, decide_eq_true hf, Bool.true_and] at hfit
      simp only [Option.getD_some] at hfit
      have hT : ¬ (a.sides[k].heard = b.sides[f].sent.length ∧ b.sides[f].heard = a.sides[k].sent.length ∧ ¬ (a.sides[k].state = b.sides[f].state ∧ a.sides[k].rcd = b.sides[f].rcd ∧ a.sides[k].due = b.sides[f].due)) → fitAt a b a.sides[k] = true := fun c => by
        rw [hfit, differ_not (s := a.sides[k]) (t := b.sides[f]) (fun x y => Decidable.not_not.1 fun z => c ⟨x, y, z⟩)]; rfl
      have hF : a.sides[k].heard = b.sides[f].sent.length → b.sides[f].heard = a.sides[k].sent.length → ¬ (a.sides[k].state = b.sides[f].state ∧ a.sides[k].rcd = b.sides[f].rcd ∧ a.sides[k].due = b.sides[f].due) → false = fitsP a b := fun x y z => hend (by
        rw [hfit]
        exact differ_yes x y z)
      exact ⟨fun x => by omega, hf, fun x => ⟨fun y => ⟨fun z1 => ⟨fun z2 => ⟨fun z3 => hF x y fun z => z3 z.2.2, fun z3 => hnext (hT fun z => z.2.2 ⟨z1, z2, z3⟩)⟩, fun z2 => hF x y fun z => z2 z.2.1⟩, fun z1 => hF x y fun z => z1 z.1⟩, fun y => hnext (hT fun z => y z.2.1)⟩, fun x => hnext (hT fun z => x z.1)⟩
    · rw [if_neg hf]
      push_cast
      exact hend (by rw [hfit, decide_eq_false hf]; rfl)
  · rw [← hinv, List.drop_eq_nil_of_le (by omega)]; rfl
theorem c45 (a b : Partner) (hra : ∀ s ∈ a.sides, s.role = 1 ∨ s.role = 2) (hrb : ∀ s ∈ b.sides, s.role = 1 ∨ s.role = 2) (ha : a.sides.length ≤ 100000) (hb : b.sides.length ≤ 100000) : AFn Tryd.prog Γ 45 [.agg (a.ds.map C.d), .agg (b.ds.map C.d)] [.d (.bool (agreeF a b))] := by
  refine AFn.vc [] Tryd.func45 rfl Tryd.mixed (by kernel_rfl) Tryd.ntmps45 Tryd.results45 (by simp) ?_
  push_cast
  refine ⟨fun h1 => ?_, fun h1 => ?_⟩
  · refine CallL.q (c85 a b hra ha hb) ?_
    push_cast
    have e : agreeF a b = (fitsP a b && fitsP b a) := by unfold agreeF; rw [decide_eq_true (show a.id ≠ b.id from h1), Bool.true_and]
    refine ⟨fun h2 => ?_, fun h2 => by rw [e, h2]; rfl⟩
    refine CallL.q (c85 b a hrb hb ha) ?_
    push_cast
    rw [e, h2]; rfl
  · have : agreeF a b = false := by unfold agreeF; rw [decide_eq_false (show ¬ a.id ≠ b.id from fun x => x h1)]; rfl
    exact this.symm
theorem c46 (a b : Partner) (hra : ∀ s ∈ a.sides, s.role = 1 ∨ s.role = 2) (hrb : ∀ s ∈ b.sides, s.role = 1 ∨ s.role = 2) (ha : a.sides.length ≤ 100000) (hb : b.sides.length ≤ 100000) : AFn Tryd.prog Γ 46 [.agg (a.ds.map C.d), .agg (b.ds.map C.d)] [.d (.bool (agreeF a b))] := by
  refine AFn.vc [] Tryd.func46 rfl Tryd.mixed (by kernel_rfl) Tryd.ntmps46 Tryd.results46 (by simp) ?_
  push_cast
  refine ⟨fun h1 => ?_, fun h1 => ?_⟩
  · refine CallL.q (c86 a b hra ha hb) ?_
    push_cast
    have e : agreeF a b = (fitsP a b && fitsP b a) := by unfold agreeF; rw [decide_eq_true (show a.id ≠ b.id from h1), Bool.true_and]
    refine ⟨fun h2 => ?_, fun h2 => by rw [e, h2]; rfl⟩
    refine CallL.q (c86 b a hrb hb ha) ?_
    push_cast
    rw [e, h2]; rfl
  · have : agreeF a b = false := by unfold agreeF; rw [decide_eq_false (show ¬ a.id ≠ b.id from fun x => x h1)]; rfl
    exact this.symm
end Go.Proofs

/- Walks of the chapter on partners, sixth part: Same. No condition. -/
namespace Go.Proofs
open Go Go.Ax Go.Tx Go.Il
set_option maxRecDepth 100000
variable {Γ : List (Nat × List D)}
theorem c49 (a b : List Msg) (ha : a.length ≤ 1000000) (hb : b.length ≤ 1000000) : AFn Tryd.prog Γ 49 [.c (.bor 8 (a.map Msg.ds)), .c (.bor 8 (b.map Msg.ds))] [.d (.bool (decide (a = b)))] := by
  refine AFn.vc [] Tryd.func49 rfl Tryd.mixed (by kernel_rfl) Tryd.ntmps49 Tryd.results49 (by simp) ?_
  push_cast
  refine ⟨fun h => ?_, fun h => ?_⟩
  · rw [decide_eq_false]; rintro rfl; exact h rfl
  have hlen : a.length = b.length := by omega
  refine LoopV.cnt Tryd.mixed [0, 1] a.length (fun k => [(5, .c (.d (.int .i64 k)))]) (fun k => decide (a = b) = decide (a.drop k = b.drop k)) (by simp) ?_ (by push_cast)
  intro k hk hin
  push_cast
  refine ⟨fun h2 => ?_, fun h2 => ?_⟩
  · have hk' : k < a.length := by omega
    rw [drop_cons hk', drop_cons (show k < b.length by omega)] at hin
    refine ⟨hk', by omega, fun c => ?_, fun c => ⟨⟨by omega, by omega⟩, hk', ?_⟩⟩
    · rw [hin, decide_eq_false]
      intro e
      injection e with e1 _
      rw [e1] at c
      simp at c
    · rw [hin, msg_eq c]
      exact decide_eq_decide.2 ⟨fun e => by injection e, fun e => by rw [e]⟩
  · rw [hin, List.drop_eq_nil_of_le (by omega), List.drop_eq_nil_of_le (by omega)]; rfl
theorem c42 (a b : Partner) (ha : a.sides.length ≤ 100000) (hb : b.sides.length ≤ 100000) (hA : ∀ s ∈ a.sides, SmN s) (hB : ∀ s ∈ b.sides, SmN s) : AFn Tryd.prog Γ 42 [.agg (a.ds.map C.d), .agg (b.ds.map C.d)] [.d (.bool (decide (a = b)))] := by
  refine AFn.vc [] Tryd.func42 rfl Tryd.mixed (by kernel_rfl) Tryd.ntmps42 Tryd.results42 (by simp) ?_
  push_cast
  have hF : ∀ {p : Prop}, ¬ p → (a = b → p) → false = decide (a = b) := fun hp hq => by rw [decide_eq_false fun e => hp (hq e)]
  by_cases h1 : a.id = b.id
  case neg =>
    have e1 : (a.id = b.id) = False := eq_false h1
    push_cast [e1]
    exact hF h1 fun e => by rw [e]
  have e1 : (a.id = b.id) = True := eq_true h1
  by_cases h2 : a.next = b.next
  case neg =>
    have e2 : (a.next = b.next) = False := eq_false h2
    push_cast [e1, e2]
    exact hF h2 fun e => by rw [e]
  have e2 : (a.next = b.next) = True := eq_true h2
  push_cast [e1, e2]
  have hab : decide (a = b) = decide (a.sides = b.sides) := decide_eq_decide.2 ⟨fun e => by rw [e], fun e => by cases a; cases b; simp_all⟩
  refine ⟨fun h => hF (fun e : a.sides = b.sides => h (by rw [e])) fun e => by rw [e], fun hlen => ?_⟩
  refine LoopV.cnt Tryd.mixed [2, 3] a.sides.length (fun k => [(5, .c (.d (.int .i64 k)))]) (fun k => decide (a = b) = decide (a.sides.drop k = b.sides.drop k)) (by rw [hab]; rfl) ?_ (by push_cast)
  intro k hk hin
  push_cast
  refine ⟨fun h => ?_, fun h => ?_⟩
  · have hk' : k < a.sides.length := by omega
    have hk2 : k < b.sides.length := by omega
    rw [drop_cons hk', drop_cons hk2] at hin
    have bad : ∀ {p : Prop}, ¬ p → (a.sides[k] = b.sides[k] → p) → false = decide (a = b) := fun hp hq => by
      rw [hin, decide_eq_false]
      intro e
      injection e with e1 _
      exact hp (hq e1)
    have good : a.sides[k] = b.sides[k] → decide (a = b) = decide (a.sides.drop (k + 1) = b.sides.drop (k + 1)) := fun c => by
      rw [hin, c]
      exact decide_eq_decide.2 ⟨fun e => by injection e, fun e => by rw [e]⟩
    refine ⟨hk', by omega, ?_⟩
    have sA := hA _ (List.getElem_mem hk')
    have sB := hB _ (List.getElem_mem hk2)
    have b1 := sA.l1
    have b2 := sA.l2
    have b3 := sB.l1
    have b4 := sB.l2
    refine ⟨fun a1 => ⟨fun a2 => ⟨fun a3 => ⟨fun a4 => ⟨fun a5 => ⟨fun a6 => ⟨fun a7 => ?_, fun h => bad h fun e => by rw [e]⟩, fun h => bad h fun e => by rw [e]⟩, fun h => bad h fun e => by rw [e]⟩, fun h => bad h fun e => by rw [e]⟩, fun h => bad h fun e => by rw [e]⟩, fun h => bad h fun e => by rw [e]⟩, fun h => bad h fun e => by rw [e]⟩
    refine CallL.q (c49 a.sides[k].sent b.sides[k].sent (by omega) (by omega)) ?_
    push_cast
    refine ⟨fun a8 => ?_, fun a8 => bad a8 fun e => by rw [e]⟩
    refine CallL.q (c49 a.sides[k].early b.sides[k].early (by omega) (by omega)) ?_
    push_cast
    refine ⟨fun a9 => bad a9 fun e => by rw [e], fun a9 => ⟨⟨by omega, by omega⟩, hk', good ?_⟩⟩
    revert a1 a2 a3 a4 a5 a6 a7 a8 a9
    generalize a.sides[k] = x
    generalize b.sides[k] = y
    intro a1 a2 a3 a4 a5 a6 a7 a8 a9
    cases x; cases y; simp_all
  · rw [hin, List.drop_eq_nil_of_le (by omega), List.drop_eq_nil_of_le (by omega)]; rfl
end Go.Proofs
