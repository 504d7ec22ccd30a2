/- Walks of the chapter on privacy, first part. -/
import Derived.Test.YtjnljbimandmcaaPT
import Derived.Test.YtjnljbimandmcaaPDa
set_option linter.all false
namespace Go.Proofs
open Go Go.Ax Go.Pv
set_option maxRecDepth 100000
variable {Γ : List (Nat × List D)}
theorem mul_bd {a b : Int} (h1 : 1 ≤ a) (h2 : a ≤ 8) (h3 : 1 ≤ b) (h4 : b ≤ 8) : 1 ≤ a * b ∧ a * b ≤ 64 := by
  have h5 := Int.mul_le_mul h2 h4 (by omega) (by omega)
  have h6 := Int.mul_le_mul h1 h3 (by omega) (by omega)
  omega
theorem c10 (t : Tab) : AFn Try.prog Γ 10 [.agg t.cs] [.d (.bool (rightB t))] := by
  refine AFn.vc [] Try.func10 rfl Try.mixed (by kernel_rfl) Try.ntmps10 Try.results10 (by simp) ?_
  push_cast
  refine ⟨fun h1 => ⟨fun h2 => ⟨fun h3 => ⟨fun h4 => ⟨?_, fun h5 => ?_, fun h5 => ?_⟩, fun h4 => ?_⟩, fun h4 => ?_⟩, fun h4 => ?_⟩, fun h4 => ?_⟩
  · have := mul_bd h1 h2 h3 h4; omega
  · simp [rightB, okT, h5]
  · have hb := mul_bd h1 h2 h3 h4
    refine LoopV.cnt Try.mixed [35, 36] t.cells.length (fun k => [(37, .c (.d (.int .i64 k)))]) (fun k => rightB t = (t.cells.drop k).all inC) (by simp [rightB, okT, h1, h2, h3, h4, h5]) ?_
    intro k hk0 hinv
    push_cast
    refine ⟨fun h => ⟨by omega, fun a => ⟨fun b => ?_, fun b => ⟨by omega, by omega, ?_⟩⟩, fun a => ?_⟩, fun h => ?_⟩
    · rw [hinv, all_drop _ (by omega), show inC t.cells[k] = false by simp [inC]; omega]; rfl
    · rw [hinv, all_drop _ (by omega)]; simp [inC, a, b]
    · rw [hinv, all_drop _ (by omega), show inC t.cells[k] = false by simp [inC]; omega]; rfl
    · rw [hinv, drop_end (by omega)]; rfl
  all_goals (have : ¬ okT t := (fun h => by unfold okT at h; omega)); simp [rightB, this]
theorem c11 (t : Tab) : AFn Try.prog Γ 11 [.agg t.cs] [.d (.bool (rightB t))] := by
  refine AFn.vc [] Try.func11 rfl Try.mixed (by kernel_rfl) Try.ntmps11 Try.results11 (by simp) ?_
  push_cast
  refine ⟨fun h1 => ⟨fun h2 => ⟨fun h3 => ⟨fun h4 => ⟨?_, fun h5 => ?_, fun h5 => ?_⟩, fun h4 => ?_⟩, fun h4 => ?_⟩, fun h4 => ?_⟩, fun h4 => ?_⟩
  · have := mul_bd h1 h2 h3 h4; omega
  · simp [rightB, okT, h5]
  · have hb := mul_bd h1 h2 h3 h4
    refine LoopV.cnt Try.mixed [1] t.cells.length (fun k => [(3, .c (.d (.int .i64 k)))]) (fun k => rightB t = (t.cells.drop k).all inC) (by simp [rightB, okT, h1, h2, h3, h4, h5]) ?_
    intro k hk0 hinv
    push_cast
    refine ⟨fun h => ⟨by omega, fun a => ⟨by omega, fun b => ?_, fun b => ⟨by omega, by omega, ?_⟩⟩, fun a => ?_⟩, fun h => ?_⟩
    · rw [hinv, all_drop _ (by omega), show inC t.cells[k] = false by simp [inC]; omega]; rfl
    · rw [hinv, all_drop _ (show k < t.cells.length by omega)]; simp [inC, a, b]
    · rw [hinv, all_drop _ (by omega), show inC t.cells[k] = false by simp [inC]; omega]; rfl
    · rw [hinv, drop_end (by omega)]; rfl
  all_goals (have : ¬ okT t := (fun h => by unfold okT at h; omega)); simp [rightB, this]
theorem c25 (t : Tab) (hl : t.cells.length ≤ 1000000) : AFn Try.prog Γ 25 [.agg t.cs] [.d (.bool (openB t))] := by
  refine AFn.vc [] Try.func25 rfl Try.mixed (by kernel_rfl) Try.ntmps25 Try.results25 (by simp) ?_
  push_cast
  refine LoopV.cnt Try.mixed [1] t.cells.length (fun k => [(3, .c (.d (.int .i64 k)))]) (fun k => openB t = (t.cells.drop k).all fun v => decide (v ≠ -1)) (by simp [openB]) ?_
  intro k hk0 hinv
  push_cast
  refine ⟨fun h => ⟨by omega, fun a => ?_, fun a => ⟨by omega, by omega, ?_⟩⟩, fun h => ?_⟩
  · rw [hinv, all_drop _ (by omega)]; simp [a]
  · rw [hinv, all_drop _ (show k < t.cells.length by omega)]; simp [a]
  · rw [hinv, drop_end (by omega)]; rfl
theorem c37 (l : List Int) (v : Int) (hl : l.length ≤ 1000000) : AFn Try.prog Γ 37 [.c (.bor 1 (l.map iD)), .c (.d (.int .i64 v))] [.d (.int .i64 (fI (fun x => decide (v = x)) 0 l))] := by
  refine AFn.vc [] Try.func37 rfl Try.mixed (by kernel_rfl) Try.ntmps37 Try.results37 (by simp) ?_
  push_cast
  refine LoopV.cnt Try.mixed [0, 1, 7] l.length (fun k => [(8, .c (.d (.int .i64 k)))]) (fun k => fI (fun x => decide (v = x)) k (l.drop k) = fI (fun x => decide (v = x)) 0 l) (by simp) ?_
  intro k hk hinv
  push_cast
  refine ⟨fun h => ⟨by omega, fun a => ?_, fun a => ⟨by omega, by omega, ?_⟩⟩, fun h => ?_⟩
  · rw [← hinv, drop_cons (by omega), fI, if_pos (by simp [a])]
  · rw [← hinv, drop_cons (show k < l.length by omega), fI, if_neg (by simp [a])]
  · rw [← hinv, drop_end (by omega)]; rfl
theorem c30 (l : List Int) (v : Int) (hl : l.length ≤ 1000000) : AFn Try.prog Γ 30 [.c (.bor 1 (l.map iD)), .c (.d (.int .i64 v))] [.d (.bool (l.any fun x => decide (v = x)))] := by
  refine AFn.vc [] Try.func30 rfl Try.mixed (by kernel_rfl) Try.ntmps30 Try.results30 (by simp) ?_
  push_cast
  refine CallL.q (c37 l v hl) ?_
  push_cast
  exact fI_ge _ _
theorem c31 (l : List Int) (hl : l.length ≤ 1000000) : AFn Try.prog Γ 31 [.c (.bor 1 (l.map iD))] [.fresh 3 1 (l.map iD)] := by
  refine AFn.vc [] Try.func31 rfl Try.mixed (by kernel_rfl) Try.ntmps31 Try.results31 (by simp) ?_
  push_cast
  exact ⟨fun _ => ⟨by omega, by omega⟩, fun h b => ⟨fun _ => h, fun _ => ⟨by omega, by omega⟩⟩⟩
theorem c29 (l : List Ev) (hl : l.length ≤ 1000000) : AFn Try.prog Γ 29 [.c (.bor 7 (l.map Ev.ds))] [.fresh 41 7 (l.map Ev.ds)] := by
  refine AFn.vc [] Try.func29 rfl Try.mixed (by kernel_rfl) Try.ntmps29 Try.results29 (by simp) ?_
  push_cast
  exact ⟨fun _ => ⟨by omega, by omega⟩, fun h b => ⟨fun _ => h, fun _ => ⟨by omega, by omega⟩⟩⟩
theorem c17 (a b : List Ev) (ha : a.length ≤ 1000000) (hb : b.length ≤ 1000000) : AFn Try.prog Γ 17 [.c (.bor 7 (a.map Ev.ds)), .c (.bor 7 (b.map Ev.ds))] [.d (.bool (a == b))] := by
  refine AFn.vc [] Try.func17 rfl Try.mixed (by kernel_rfl) Try.ntmps17 Try.results17 (by simp) ?_
  push_cast
  refine ⟨fun h => ?_, fun h => ?_⟩
  · have : a ≠ b := fun e => h (by rw [e])
    simp [this]
  · refine LoopV.cnt Try.mixed [0, 1] a.length (fun k => [(5, .c (.d (.int .i64 k)))]) (fun k => (a == b) = (a.drop k == b.drop k)) (by simp) ?_
    intro k hk hinv
    push_cast
    refine ⟨fun hl => ⟨by omega, by omega, fun q => ?_, fun q => ⟨by omega, by omega, ?_⟩⟩, fun hl => ?_⟩
    · rw [hinv, beq_drop (show a.length = b.length by omega) (show k < a.length by omega)]
      have : (a[k] == b[k]) = false := by
        rw [beq_eq_false_iff_ne]; intro e; rw [e] at q; simp at q
      rw [this]; rfl
    · rw [hinv, beq_drop (show a.length = b.length by omega) (show k < a.length by omega)]
      have : (a[k] == b[k]) = true := by
        rw [beq_iff_eq]
        obtain ⟨q1, q2, q3, q4, q5, q6, q7⟩ := q
        generalize a[k] = x at *
        generalize b[k] = y at *
        cases x; cases y; simp_all
      rw [this]; rfl
    · rw [hinv, drop_end (by omega), drop_end (by omega)]; rfl
theorem c18 (l : List Ev) (before : Int) (hl : l.length ≤ 1000000) : AFn Try.prog Γ 18 [.c (.bor 7 (l.map Ev.ds)), .c (.d (.int .i64 before))] [.fresh 41 7 ((l.map (forgetE before)).map Ev.ds)] := by
  refine AFn.vc [8] Try.func18 rfl Try.mixed (by kernel_rfl) Try.ntmps18 Try.results18 (by simp) ?_
  push_cast
  refine CallL.own (c29 l hl) ?_
  push_cast
  refine LoopV.cntH Try.mixed [1, 5, 10] l.length (fun k => [(11, .c (.d (.int .i64 k)))]) (fun k => [.row 41 7 ((upto (forgetE before) k l).map Ev.ds) 0]) (fun k => True) trivial ?_ (by push_cast; rw [upto_zero])
  intro k hk hinv
  push_cast
  have hL := upto_len (forgetE before) k l
  refine ⟨fun h => ⟨by omega, by omega, fun a => ⟨by omega, by omega, ⟨by omega, by omega⟩, by omega, ?_⟩, fun a => ⟨by omega, by omega, ?_⟩⟩, fun h => ?_⟩
  · have hk' : k < l.length := by omega
    rw [upto_get _ hk'] at a ⊢
    rw [← upto_set _ hk', ← map_set']
    simp [forgetE, a, Ev.ds]
  · have hk' : k < l.length := by omega
    rw [upto_get _ hk'] at a
    rw [upto_same _ hk' (by simp [forgetE]; omega)]
  · rw [upto_end _ (by omega)]
theorem c19 (l : List Ev) (before : Int) (hl : l.length ≤ 1000000) : AFn Try.prog Γ 19 [.c (.bor 7 (l.map Ev.ds)), .c (.d (.int .i64 before))] [.fresh 41 7 ((l.map (forgetE before)).map Ev.ds)] := by
  refine AFn.vc [] Try.func19 rfl Try.mixed (by kernel_rfl) Try.ntmps19 Try.results19 (by simp) ?_
  push_cast
  refine LoopV.cntH Try.mixed [0, 1] l.length (fun k => [(6, .c (.d (.int .i64 k))), (5, .c (.own 0 k))]) (fun k => [.row 41 7 (((l.take k).map (forgetE before)).map Ev.ds) k]) (fun k => True) trivial ?_
  intro k hk hinv
  push_cast
  refine ⟨fun h => ⟨by omega, fun a => ⟨⟨by omega, by omega⟩, by omega, by omega, ?_⟩, fun a => ⟨⟨by omega, by omega⟩, by omega, by omega, ?_⟩⟩, fun h => ?_⟩
  · rw [map_take_next _ (show k < l.length by omega), List.map_append]; simp only [forgetE, if_pos a]; rfl
  · rw [map_take_next _ (show k < l.length by omega), List.map_append]; simp only [forgetE, if_neg (show ¬ l[k].day < before by omega)]; rfl
  · rw [List.take_of_length_le (by omega)]
theorem known_next (p : Int) {l : List Ev} {k : Nat} (h : k < l.length) : knownF p (l.take (k + 1)) = knownF p (l.take k) + if 0 < p ∧ l[k].patron = p then 1 else 0 := by
  unfold knownF; rw [countP_take _ h]; simp
theorem known_le (p : Int) (l : List Ev) (k : Nat) : knownF p (l.take k) ≤ l.length := Nat.le_trans (List.countP_le_length) (by simp; omega)
theorem c20 (l : List Ev) (p : Int) (hl : l.length ≤ 1000000) : AFn Try.prog Γ 20 [.c (.bor 7 (l.map Ev.ds)), .c (.d (.int .i64 p))] [.d (.int .i64 (knownF p l))] := by
  refine AFn.vc [] Try.func20 rfl Try.mixed (by kernel_rfl) Try.ntmps20 Try.results20 (by simp) ?_
  push_cast
  refine LoopV.cnt Try.mixed [1, 8, 9] l.length (fun k => [(10, .c (.d (.int .i64 k))), (5, .c (.d (.int .i64 (knownF p (l.take k)))))]) (fun k => True) trivial ?_ (by push_cast; simp [knownF])
  intro k hk hinv
  push_cast
  have hle := known_le p l k
  refine ⟨fun h => ⟨by omega, fun a => ⟨fun b => ⟨by omega, by omega, by omega, ?_⟩, fun b => ⟨by omega, by omega, ?_⟩⟩, fun a => ⟨by omega, by omega, ?_⟩⟩, fun h => ?_⟩
  · rw [known_next p (show k < l.length by omega), if_pos ⟨a, b⟩]; rfl
  · rw [known_next p (show k < l.length by omega), if_neg (fun h => b h.2)]; rfl
  · rw [known_next p (show k < l.length by omega), if_neg (fun h => by omega)]; rfl
  · rw [List.take_of_length_le (by omega)]
theorem c21 (l : List Ev) (p : Int) (hl : l.length ≤ 1000000) : AFn Try.prog Γ 21 [.c (.bor 7 (l.map Ev.ds)), .c (.d (.int .i64 p))] [.d (.int .i64 (knownF p l))] := by
  refine AFn.vc [] Try.func21 rfl Try.mixed (by kernel_rfl) Try.ntmps21 Try.results21 (by simp) ?_
  push_cast
  refine LoopV.cnt Try.mixed [0, 1] l.length (fun k => [(6, .c (.d (.int .i64 k))), (5, .c (.d (.int .i64 (knownF p (l.take k)))))]) (fun k => True) trivial ?_ (by push_cast; simp [knownF])
  intro k hk hinv
  push_cast
  have hle := known_le p l k
  refine ⟨fun h => ⟨fun a => ⟨by omega, fun b => ⟨by omega, by omega, by omega, ?_⟩, fun b => ⟨by omega, by omega, ?_⟩⟩, fun a => ⟨by omega, by omega, ?_⟩⟩, fun h => ?_⟩
  · rw [known_next p (show k < l.length by omega), if_pos ⟨a, b⟩]; rfl
  · rw [known_next p (show k < l.length by omega), if_neg (fun h => b h.2)]; rfl
  · rw [known_next p (show k < l.length by omega), if_neg (fun h => by omega)]; rfl
  · rw [List.take_of_length_le (by omega)]
theorem c16 (a b : List Int) (ha : a.length ≤ 1000000) (hb : b.length ≤ 1000000) : AFn Try.prog Γ 16 [.c (.bor 1 (a.map iD)), .c (.bor 1 (b.map iD))] [.d (.bool (a == b))] := by
  refine AFn.vc [] Try.func16 rfl Try.mixed (by kernel_rfl) Try.ntmps16 Try.results16 (by simp) ?_
  push_cast
  refine ⟨fun h => ?_, fun h => ?_⟩
  · have : a ≠ b := fun e => h (by rw [e])
    simp [this]
  · refine LoopV.cnt Try.mixed [0, 1, 12] a.length (fun k => [(13, .c (.d (.int .i64 k)))]) (fun k => (a == b) = (a.drop k == b.drop k)) (by simp) ?_
    intro k hk hinv
    push_cast
    refine ⟨fun hl => ⟨by omega, by omega, fun q => ?_, fun q => ⟨by omega, by omega, ?_⟩⟩, fun hl => ?_⟩
    · rw [hinv, beq_drop (show a.length = b.length by omega) (show k < a.length by omega), beq_eq_false_iff_ne.2 q]; rfl
    · rw [hinv, beq_drop (show a.length = b.length by omega) (show k < a.length by omega), beq_iff_eq.2 q]; rfl
    · rw [hinv, drop_end (by omega), drop_end (by omega)]; rfl
theorem c22 (a b : Tab) (ha : a.cells.length ≤ 1000000) (hb : b.cells.length ≤ 1000000) : AFn Try.prog Γ 22 [.agg a.cs, .agg b.cs] [.d (.bool (decide (a.rows = b.rows) && decide (a.cols = b.cols) && (a.cells == b.cells)))] := by
  refine AFn.vc [] Try.func22 rfl Try.mixed (by kernel_rfl) Try.ntmps22 Try.results22 (by simp) ?_
  push_cast
  refine ⟨fun h1 => ⟨fun h2 => ⟨fun h => ?_, fun h => ?_⟩, fun h2 => ?_⟩, fun h1 => ?_⟩
  · have : a.cells ≠ b.cells := fun e => h (by rw [e])
    simp [this]
  · refine LoopV.cnt Try.mixed [2, 3] a.cells.length (fun k => [(5, .c (.d (.int .i64 k)))]) (fun k => (a.cells == b.cells) = (a.cells.drop k == b.cells.drop k)) (by simp) ?_
    intro k hk hinv
    push_cast
    simp only [h1, h2, decide_true, Bool.true_and]
    refine ⟨fun hl => ⟨by omega, by omega, fun q => ?_, fun q => ⟨by omega, by omega, ?_⟩⟩, fun hl => ?_⟩
    · rw [hinv, beq_drop (show a.cells.length = b.cells.length by omega) (show k < a.cells.length by omega), beq_eq_false_iff_ne.2 q]; rfl
    · rw [hinv, beq_drop (show a.cells.length = b.cells.length by omega) (show k < a.cells.length by omega), beq_iff_eq.2 q]; rfl
    · rw [hinv, drop_end (by omega), drop_end (by omega)]; rfl
  · simp [h2]
  · simp [h1]
end Go.Proofs
