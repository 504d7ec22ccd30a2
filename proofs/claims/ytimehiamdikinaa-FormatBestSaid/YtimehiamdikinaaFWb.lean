/- Walks of the chapter on formats, second part. -/
import Derived.Test.YtimehiamdikinaaFWa
set_option linter.all false
namespace Go.Proofs
open Go Go.Ax Go.Fm
set_option maxRecDepth 100000
variable {Γ : List (Nat × List D)}
def predS (p : Fmt → Bool) : List AV → List RV → Prop := fun a r => ∃ x : Fmt, a = [.agg (x.ds.map C.d)] ∧ r = [.d (.bool (p x))]
theorem c43 (l : List Fmt) (p : Fmt → Bool) (hl : l.length ≤ 1000000) : AFn Try.prog Γ 43 [.c (.bor 7 (l.map Fmt.ds)), .c (.fn (FnSpec Try.prog Γ (predS p)))] [.d (.int .i64 (fI p 0 l))] := by
  refine AFn.vc [] Try.func43 rfl Try.mixed (by kernel_rfl) Try.ntmps43 Try.results43 (by simp) ?_
  push_cast
  refine LoopV.cnt Try.mixed [0, 1, 7] l.length (fun k => [(8, .c (.d (.int .i64 k)))]) (fun k => fI p k (l.drop k) = fI p 0 l) (by simp) ?_ (by push_cast)
  intro k hk hinv
  push_cast
  refine ⟨fun h => ⟨by omega, CallL.fn _ _ ⟨l[k], rfl, rfl⟩ ?_⟩, fun h => ?_⟩
  · push_cast
    refine ⟨fun a => ?_, fun a => ⟨by omega, by omega, ?_⟩⟩
    · rw [← hinv, drop_cons (by omega), fI, if_pos a]
    · rw [← hinv, drop_cons (show k < l.length by omega), fI, if_neg (by simp [a])]
  · rw [← hinv, drop_end (by omega)]; rfl
theorem c32 (l : List Fmt) (id : Int) (hl : l.length ≤ 1000000) : AFn Try.prog Γ 32 [.c (.d (.lst 7 (l.map Fmt.ds))), .c (.d (.int .i64 id))] [.d (.int .i64 (findF l id))] := by
  refine AFn.vc [] Try.func32 rfl Try.mixed (by kernel_rfl) Try.ntmps32 Try.results32 (by simp) ?_
  push_cast
  refine CallL.q (c43 l (fun f => decide (f.id = id)) hl) ?_ (.cons (ArgOk.bor rfl) (.cons (ArgOk.clo (dss := [[.int .i64 id]]) (c44 (Γ := []) ⟨0, 0, 0, 0, [], [], []⟩ 0).call rfl (fun a r h => by obtain ⟨x, rfl, rfl⟩ := h; exact c44 x id)) .nil))
  push_cast
  rfl
theorem c28 (l : List Fmt) (p : Fmt → Bool) (hl : l.length ≤ 1000000) : AFn Try.prog Γ 28 [.c (.bor 7 (l.map Fmt.ds)), .c (.fn (FnSpec Try.prog Γ (predS p)))] [.d (.bool (l.any p))] := by
  refine AFn.vc [] Try.func28 rfl Try.mixed (by kernel_rfl) Try.ntmps28 Try.results28 (by simp) ?_
  push_cast
  refine CallL.q (c43 l p hl) ?_
  push_cast
  exact fI_ge p l
theorem c27 (f : Fmt) (hl : f.name.length ≤ 1000000) : AFn Try.prog Γ 27 [.agg (f.ds.map C.d)] [.d (.int .i64 (checkF f))] := by
  refine AFn.vc [] Try.func27 rfl Try.mixed (by kernel_rfl) Try.ntmps27 Try.results27 (by simp) ?_
  push_cast
  refine CallL.q (c41 f.id 1 9999) ?_
  push_cast
  refine ⟨fun h1 => ?_, fun h1 => by simp [checkF, h1]⟩
  refine CallL.q (c41 f.since 1 2199) ?_
  push_cast
  refine ⟨fun h2 => ⟨fun h3 => ?_, fun h3 => ?_⟩, fun h2 => by simp [checkF, h1, h2]⟩
  · refine CallL.q (c41 f.until_ f.since 2199) ?_
    push_cast
    refine ⟨fun h3' => ?_, fun h3' => by simp [checkF, h1, h2, h3, h3']⟩
    refine CallL.q (c41 f.base 0 100) ?_
    push_cast
    refine ⟨fun h4 => by simp [checkF, h1, h2, h3', h4], fun h4 => ?_⟩
    refine CallL.q (c42 f.name hl) ?_
    push_cast
    refine ⟨fun h5 => ?_, fun h5 => by simp [checkF, h1, h2, h3', h4, h5]⟩
    refine CallL.q (c41 f.magic.length 1 16) ?_
    push_cast
    refine ⟨fun h6 => by simp [checkF, h1, h2, h3', h4, h5, h6], fun h6 => by simp [checkF, h1, h2, h3', h4, h5, h6]⟩
  · skip
    refine CallL.q (c41 f.base 0 100) ?_
    push_cast
    refine ⟨fun h4 => by simp [checkF, h1, h2, h3, h4], fun h4 => ?_⟩
    refine CallL.q (c42 f.name hl) ?_
    push_cast
    refine ⟨fun h5 => ?_, fun h5 => by simp [checkF, h1, h2, h3, h4, h5]⟩
    refine CallL.q (c41 f.magic.length 1 16) ?_
    push_cast
    refine ⟨fun h6 => by simp [checkF, h1, h2, h3, h4, h5, h6], fun h6 => by simp [checkF, h1, h2, h3, h4, h5, h6]⟩
theorem c13 (a b : List Int) (ha : a.length ≤ 1000000) (hb : b.length ≤ 1000000) : AFn Try.prog Γ 13 [.c (.bor 1 (a.map iD)), .c (.bor 1 (b.map iD))] [.d (.bool (a == b))] := by
  refine AFn.vc [] Try.func13 rfl Try.mixed (by kernel_rfl) Try.ntmps13 Try.results13 (by simp) ?_
  push_cast
  refine ⟨fun h => by rw [eq_comm, beq_eq_false_iff_ne]; intro e; exact h (by rw [e]), fun h => ?_⟩
  have hab : a.length = b.length := by omega
  refine LoopV.cnt Try.mixed [0, 1] a.length (fun k => [(5, .c (.d (.int .i64 k)))]) (fun k => (a == b) = (a.drop k == b.drop k)) (by simp) ?_ (by push_cast)
  intro k hk hinv
  push_cast
  refine ⟨fun h => ⟨by omega, by omega, fun q => ?_, fun q => ⟨⟨by omega, by omega⟩, by omega, ?_⟩⟩, fun h => ?_⟩
  · rw [hinv, beq_drop hab (by omega)]; simp [q]
  · rw [hinv, beq_drop hab (by omega)]; simp [q]
  · rw [hinv, drop_end (by omega), drop_end (by omega)]; rfl
theorem c10 (l : List Fmt) : AFn Try.prog Γ 10 [.c (.d (.lst 7 (l.map Fmt.ds)))] [.d (.bool (smallB l))] := by
  refine AFn.vc [] Try.func10 rfl Try.mixed (by kernel_rfl) Try.ntmps10 Try.results10 (by simp) ?_
  push_cast
  refine ⟨fun h => by unfold smallB; rw [decide_eq_false (by omega)]; rfl, fun h => ?_⟩
  have hs : smallB l = l.all fun f => decide (f.name.length ≤ 50) && decide (f.magic.length ≤ 50) && decide (f.to.length ≤ 20) := by
    unfold smallB; rw [decide_eq_true (by omega)]; rfl
  refine LoopV.cnt Try.mixed [0] l.length (fun k => [(3, .c (.d (.int .i64 k)))]) (fun k => smallB l = (l.drop k).all fun f => decide (f.name.length ≤ 50) && decide (f.magic.length ≤ 50) && decide (f.to.length ≤ 20)) (by rw [hs]; rfl) ?_ (by push_cast)
  intro k hk hinv
  push_cast
  refine ⟨fun h2 => ?_, fun h2 => by rw [hinv, drop_end (by omega)]; rfl⟩
  have hk' : k < l.length := by omega
  rw [all_drop _ hk'] at hinv
  have k1 : ¬ ((l[k].name.length : Int) ≤ 50 ∧ (l[k].magic.length : Int) ≤ 50 ∧ (l[k].to.length : Int) ≤ 20) → false = smallB l := fun a => by
    rw [hinv]; simp; intro q1 q2 q3; exfalso; omega
  have k2 : (l[k].name.length : Int) ≤ 50 ∧ (l[k].magic.length : Int) ≤ 50 ∧ (l[k].to.length : Int) ≤ 20 → smallB l = (l.drop (k + 1)).all fun f => decide (f.name.length ≤ 50) && decide (f.magic.length ≤ 50) && decide (f.to.length ≤ 20) := fun a => by
    rw [hinv, decide_eq_true (by omega : l[k].name.length ≤ 50), decide_eq_true (by omega : l[k].magic.length ≤ 50), decide_eq_true (by omega : l[k].to.length ≤ 20)]; rfl
  repeat' (first | apply And.intro | intro _ | refine Exists.intro (by omega) ?_)
  all_goals first | omega | (exact k1 (by omega)) | (exact k2 (by omega))
theorem c19 (l : List Fmt) (data : List UInt8) (hl : l.length ≤ 1000000) : AFn Try.prog Γ 19 [.c (.d (.lst 7 (l.map Fmt.ds))), .c (.d (.str data))] [.d (.int .i64 (identF l data))] := by
  refine AFn.vc [] Try.func19 rfl Try.mixed (by kernel_rfl) Try.ntmps19 Try.results19 (by simp) ?_
  push_cast
  refine LoopV.cnt Try.mixed [1, 9, 10] l.length (fun k => [(5, .c (.d (.int .i64 ((l.take k).foldl (idStep data) (0, 0)).1))), (6, .c (.d (.int .i64 ((l.take k).foldl (idStep data) (0, 0)).2))), (11, .c (.d (.int .i64 k)))]) (fun _ => True) trivial ?_ (by push_cast; exact ⟨rfl, rfl⟩)
  intro k hk _
  push_cast
  refine ⟨fun h => ?_, fun h => by rw [take_all (by omega)]; rfl⟩
  have hk' : k < l.length := by omega
  rw [foldl_take _ _ hk']
  generalize (l.take k).foldl (idStep data) (0, 0) = b
  refine ⟨hk', fun a => ?_, fun a => ⟨⟨by omega, by omega⟩, hk', ?_⟩⟩
  · refine CallL.q (c40 data l[k].magic) ?_
    push_cast
    refine ⟨fun c => ⟨⟨by omega, by omega⟩, hk', ?_⟩, fun c => ⟨⟨by omega, by omega⟩, hk', ?_⟩⟩
    · rw [show idStep data b l[k] = (l[k].id, l[k].magic.length) by simp only [idStep, decide_eq_true (by omega : b.2 < l[k].magic.length), c, Bool.and_self, cond_true]]
      exact ⟨rfl, rfl⟩
    · rw [show idStep data b l[k] = b by simp only [idStep, c, Bool.and_false, cond_false]]
      exact ⟨rfl, rfl⟩
  · rw [show idStep data b l[k] = b by simp only [idStep, decide_eq_false (by omega : ¬ b.2 < l[k].magic.length), Bool.false_and, cond_false]]
    exact ⟨rfl, rfl⟩
theorem c20 (l : List Fmt) (id : Int) (hl : l.length ≤ 1000000) : AFn Try.prog Γ 20 [.c (.d (.lst 7 (l.map Fmt.ds))), .c (.d (.int .i64 id))] [.agg (getF l id).ds, .d (.bool (hasF l id))] := by
  refine AFn.vc [] Try.func20 rfl Try.mixed (by kernel_rfl) Try.ntmps20 Try.results20 (by simp) ?_
  push_cast
  refine CallL.q (c32 l id hl) ?_
  push_cast
  have hlt := fI_lt (fun f => decide (f.id = id)) l
  unfold getF hasF
  refine ⟨fun h => ⟨h, by unfold findF at *; omega, ?_⟩, fun h => ?_⟩
  · rw [if_pos h, decide_eq_true h]
    have : (findF l id).toNat < l.length := by unfold findF at *; omega
    simp [List.getElem?_eq_getElem this]
  · rw [if_neg (by omega), decide_eq_false (by omega)]
    simp [noFmt]
theorem c21 (l : List Fmt) (id : Int) (hl : l.length ≤ 1000000) : AFn Try.prog Γ 21 [.c (.d (.lst 7 (l.map Fmt.ds))), .c (.d (.int .i64 id))] [.agg (getF l id).ds, .d (.bool (hasF l id))] := by
  refine AFn.vc [] Try.func21 rfl Try.mixed (by kernel_rfl) Try.ntmps21 Try.results21 (by simp) ?_
  push_cast
  refine LoopV.cnt Try.mixed [0, 1, 4] l.length (fun k => [(6, .c (.d (.int .i64 k)))]) (fun k => findF l id = fI (fun f => decide (f.id = id)) k (l.drop k)) (by simp [findF]) ?_ (by push_cast)
  intro k hk hinv
  push_cast
  unfold getF hasF
  refine ⟨fun h => ?_, fun h => ?_⟩
  · have hk' : k < l.length := by omega
    rw [drop_cons hk', fI] at hinv
    refine ⟨hk', fun a => ?_, fun a => ⟨⟨by omega, by omega⟩, hk', ?_⟩⟩
    · rw [if_pos (by simp [a])] at hinv
      rw [hinv, if_pos (by omega), decide_eq_true (by omega : (0 : Int) ≤ k)]
      simp [List.getElem?_eq_getElem hk', hk']
    · rw [hinv, if_neg (by simp [a])]
  · have e : findF l id = -1 := by rw [hinv, drop_end (by omega)]; rfl
    rw [e]; simp [noFmt]
def oDs : Option Fmt → List D
  | none => [.int .i64 0, .int .i64 0, .int .i64 0, .int .i64 0, .str [], .str [], .raw (.slice none 0 0)]
  | some f => f.ds
def oStep (data : List UInt8) (b : Option Fmt) (f : Fmt) : Option Fmt := bif preB data f.magic && decide ((match b with | none => 0 | some g => g.magic.length) < f.magic.length) then some f else b
def oSt : Option Fmt → Int × Nat
  | none => (0, 0)
  | some f => (f.id, f.magic.length)
theorem oStep_ok (data : List UInt8) (b : Option Fmt) (f : Fmt) : oSt (oStep data b f) = idStep data (oSt b) f := by
  have e : (match b with | none => 0 | some g => g.magic.length) = (oSt b).2 := by cases b <;> rfl
  unfold oStep idStep
  rw [e]
  cases preB data f.magic
  · simp only [Bool.false_and, Bool.and_false, cond_false]
  · by_cases h : (oSt b).2 < f.magic.length
    · rw [decide_eq_true h]; rfl
    · rw [decide_eq_false h]; rfl
theorem oFold_ok (data : List UInt8) : ∀ (l : List Fmt) (b : Option Fmt), oSt (l.foldl (oStep data) b) = l.foldl (idStep data) (oSt b)
  | [], _ => rfl
  | f :: l, b => by rw [List.foldl_cons, List.foldl_cons, oFold_ok data l, oStep_ok]
theorem c23 (l : List Fmt) (data : List UInt8) (hl : l.length ≤ 1000000) : AFn Try.prog Γ 23 [.c (.d (.lst 7 (l.map Fmt.ds))), .c (.d (.str data))] [.d (.int .i64 (identF l data))] := by
  refine AFn.vc [] Try.func23 rfl Try.mixed (by kernel_rfl) Try.ntmps23 Try.results23 (by simp) ?_
  push_cast
  refine LoopV.cntH Try.mixed [0, 1, 5] l.length (fun k => [(6, .c (.d (.int .i64 k)))]) (fun k => [.box 32 ((oDs ((l.take k).foldl (oStep data) none)).map C.d)]) (fun _ => True) trivial ?_ (by push_cast; rfl)
  intro k hk _
  have hst : k < l.length → (l.take (k + 1)).foldl (oStep data) none = oStep data ((l.take k).foldl (oStep data) none) (l.getD k noFmt) := fun h => by rw [foldl_take _ _ h]; simp [List.getElem?_eq_getElem h]
  have hfin : k = l.length → identF l data = (oSt ((l.take k).foldl (oStep data) none)).1 := fun h => by rw [oFold_ok, take_all (by omega)]; rfl
  generalize (l.take k).foldl (oStep data) none = b at *
  generalize (l.take (k + 1)).foldl (oStep data) none = b' at *
  cases b with
  | none =>
    unfold oDs
    push_cast
    refine ⟨fun h => ?_, fun h => by rw [hfin (by omega)]; rfl⟩
    have hk' : k < l.length := by omega
    have hst := hst hk'
    rw [show l.getD k noFmt = l[k] by simp [List.getElem?_eq_getElem hk']] at hst
    refine ⟨hk', ?_⟩
    refine CallX.q (c39 data l[k].magic) ?_
    push_cast
    have k1 : preB data l[k].magic = true → 0 < l[k].magic.length → b' = some l[k] := fun p q => by
      rw [hst, oStep, p]; simp only [Bool.true_and]; rw [decide_eq_true q]; rfl
    have k2 : preB data l[k].magic = true → ¬ 0 < l[k].magic.length → b' = none := fun p q => by
      rw [hst, oStep, p]; simp only [Bool.true_and]; rw [decide_eq_false q]; rfl
    have k3 : preB data l[k].magic = false → b' = none := fun p => by rw [hst, oStep, p]; rfl
    refine ⟨fun p => ⟨hk', fun q => ⟨hk', ⟨by omega, by omega⟩, hk', ?_⟩, fun q => ⟨⟨by omega, by omega⟩, hk', ?_⟩⟩, fun p => ⟨⟨by omega, by omega⟩, hk', ?_⟩⟩
    · rw [k1 p (by omega)]; rfl
    · rw [k2 p (by omega)]; rfl
    · rw [k3 p]; rfl
  | some g =>
    unfold oDs
    push_cast
    refine ⟨fun h => ?_, fun h => by rw [hfin (by omega)]; rfl⟩
    have hk' : k < l.length := by omega
    have hst := hst hk'
    rw [show l.getD k noFmt = l[k] by simp [List.getElem?_eq_getElem hk']] at hst
    refine ⟨hk', ?_⟩
    refine CallX.q (c39 data l[k].magic) ?_
    push_cast
    have k1 : preB data l[k].magic = true → g.magic.length < l[k].magic.length → b' = some l[k] := fun p q => by
      rw [hst, oStep, p]; simp only [Bool.true_and]; rw [decide_eq_true q]; rfl
    have k2 : preB data l[k].magic = true → ¬ g.magic.length < l[k].magic.length → b' = some g := fun p q => by
      rw [hst, oStep, p]; simp only [Bool.true_and]; rw [decide_eq_false q]; rfl
    have k3 : preB data l[k].magic = false → b' = some g := fun p => by rw [hst, oStep, p]; rfl
    refine ⟨fun p => ⟨hk', fun q => ⟨hk', ⟨by omega, by omega⟩, hk', ?_⟩, fun q => ⟨⟨by omega, by omega⟩, hk', ?_⟩⟩, fun p => ⟨⟨by omega, by omega⟩, hk', ?_⟩⟩
    · rw [k1 p (by omega)]; rfl
    · rw [k2 p (by omega)]; rfl
    · rw [k3 p]; rfl
end Go.Proofs
