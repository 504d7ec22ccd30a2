/- Part of a proof about this program; no condition of its own. -/
import Derived.Test.YtanbfhnmklhjiaaGreatDoorP32
import Derived.Test.YtanbfhnmklhjiaaGreatDoorP29
set_option linter.all false
/- Authority files by the reference: headings that occur twice, what stands above. No condition. -/
namespace Go.Proofs
open Go Go.Ax Go.Tx Go.Lib Go.RowKit Go.Fc
set_option maxRecDepth 100000
set_option maxHeartbeats 0
variable {Γ : List (Nat × List D)}
theorem foldl_next {α β : Type} (f : β → α → β) (l : List α) (b : β) {k : Nat} (h : k < l.length) : (l.take (k + 1)).foldl f b = f ((l.take k).foldl f b) l[k] := by
  rw [List.take_succ_eq_append_getElem h, List.foldl_append]; rfl
theorem c77 (l : List Au) (id : Int) (hl : l.length ≤ 100) (hN : abN l ≤ 2000000) : AFn Tryz.prog Γ 77 [.c (.d (.lst 5 (l.map Au.ds))), .c (.d (.int .i64 id))] [.d (.lst 1 ((aboveR l id).map iD))] := by
  unfold aboveR
  refine AFn.vc [] Tryz.func77 rfl Tryz.mixed (by kernel_rfl) Tryz.ntmps77 Tryz.results77 (by simp) ?_
  push_cast
  refine LoopV.cnt Tryz.mixed [0, 1] (l.length + 1) (fun k => [(5, .c (.d (.lst 1 ((iterN (roundA l id) k []).map iD)))), (6, .c (.d (.int .i64 k)))]) (fun _ => True) trivial ?_ (by push_cast; rfl)
  intro k hk _
  push_cast
  refine ⟨fun h => ?_, fun h => ?_⟩
  · have hO := iter_len l id k
    have hO2 : k * abN l ≤ 101 * 2000000 := Nat.mul_le_mul (by omega) hN
    have hsuc := iterN_succ (roundA l id) k []
    refine LoopV.cnt Tryz.mixed [0, 1, 6] l.length (fun i => [(5, .c (.d (.lst 1 (((l.take i).foldl (stepA id) (iterN (roundA l id) k [])).map iD)))), (7, .c (.d (.int .i64 i)))]) (fun _ => True) trivial ?_ (by push_cast; rfl)
    intro i hi _
    push_cast
    refine ⟨fun h2 => ?_, fun h2 => ?_⟩
    · have hlt : i < l.length := by omega
      have hst := foldl_next (stepA id) l (iterN (roundA l id) k []) hlt
      have hS := steps_len id (l.take i) (iterN (roundA l id) k [])
      have hS2 := abN_take l i
      have ha := abN_mem (List.getElem_mem hlt)
      have c1 : ¬ l[i].id = id → ¬ l[i].id ∈ (l.take i).foldl (stepA id) (iterN (roundA l id) k []) → (l.take (i + 1)).foldl (stepA id) (iterN (roundA l id) k []) = (l.take i).foldl (stepA id) (iterN (roundA l id) k []) := fun q1 q2 => hst.trans (if_pos ⟨q1, q2⟩)
      have c2 : (l[i].id = id ∨ l[i].id ∈ (l.take i).foldl (stepA id) (iterN (roundA l id) k [])) → (l.take (i + 1)).foldl (stepA id) (iterN (roundA l id) k []) = l[i].above.foldl putI ((l.take i).foldl (stepA id) (iterN (roundA l id) k [])) := fun q => hst.trans (if_neg (fun z => q.elim z.1 z.2))
      refine ⟨hlt, fun e => ?_, fun e => ?_⟩
      · refine ⟨hlt, ?_⟩
        refine CallL.q (c76 ((l.take i).foldl (stepA id) (iterN (roundA l id) k [])) l[i].id (by omega)) ?_
        push_cast
        refine ⟨fun e2 => ⟨by omega, hlt, by rw [c1 e e2]⟩, fun e2 => ?_⟩
        have c2 := c2 (.inr e2)
        refine LoopV.cnt Tryz.mixed [0, 1, 6, 7] l[i].above.length (fun j => [(5, .c (.d (.lst 1 (((l[i].above.take j).foldl putI ((l.take i).foldl (stepA id) (iterN (roundA l id) k []))).map iD)))), (8, .c (.d (.int .i64 j)))]) (fun _ => True) trivial ?_ (by push_cast; rfl)
        intro j hj _
        push_cast
        refine ⟨hlt, fun h3 => ?_, fun h3 => ?_⟩
        · have hjt : j < l[i].above.length := by omega
          have hst2 := foldl_next putI l[i].above ((l.take i).foldl (stepA id) (iterN (roundA l id) k [])) hjt
          have hq := putsI_len (l[i].above.take j) ((l.take i).foldl (stepA id) (iterN (roundA l id) k []))
          rw [List.length_take] at hq
          refine ⟨hlt, hjt, ?_⟩
          refine CallL.q (c137 ((l[i].above.take j).foldl putI ((l.take i).foldl (stepA id) (iterN (roundA l id) k []))) l[i].above[j] (by omega)) ?_
          push_cast
          exact ⟨by omega, hjt, by rw [hst2]⟩
        · exact ⟨by omega, hlt, by rw [c2, List.take_of_length_le (show l[i].above.length ≤ j by omega)]⟩
      · have c2 := c2 (.inl e)
        refine LoopV.cnt Tryz.mixed [0, 1, 6, 7] l[i].above.length (fun j => [(5, .c (.d (.lst 1 (((l[i].above.take j).foldl putI ((l.take i).foldl (stepA id) (iterN (roundA l id) k []))).map iD)))), (8, .c (.d (.int .i64 j)))]) (fun _ => True) trivial ?_ (by push_cast; rfl)
        intro j hj _
        push_cast
        refine ⟨hlt, fun h3 => ?_, fun h3 => ?_⟩
        · have hjt : j < l[i].above.length := by omega
          have hst2 := foldl_next putI l[i].above ((l.take i).foldl (stepA id) (iterN (roundA l id) k [])) hjt
          have hq := putsI_len (l[i].above.take j) ((l.take i).foldl (stepA id) (iterN (roundA l id) k []))
          rw [List.length_take] at hq
          refine ⟨hlt, hjt, ?_⟩
          refine CallL.q (c137 ((l[i].above.take j).foldl putI ((l.take i).foldl (stepA id) (iterN (roundA l id) k []))) l[i].above[j] (by omega)) ?_
          push_cast
          exact ⟨by omega, hjt, by rw [hst2]⟩
        · exact ⟨by omega, hlt, by rw [c2, List.take_of_length_le (show l[i].above.length ≤ j by omega)]⟩
    · have e : (l.take i).foldl (stepA id) (iterN (roundA l id) k []) = iterN (roundA l id) (k + 1) [] := by rw [List.take_of_length_le (by omega), hsuc]; rfl
      exact ⟨by omega, by omega, by rw [e]⟩
  · rw [show l.length + 1 = k by omega]
def keysT (a : Au) (k : Nat) : List (Str × Int) := ((headsA a).take k).map fun s => (normF s, a.kind)
theorem keysT_next {a : Au} {k : Nat} (h : k < (headsA a).length) : keysT a (k + 1) = keysT a k ++ [(normF (headsA a)[k], a.kind)] := by
  unfold keysT
  rw [Fc.take_next h, List.map_append]; rfl
theorem keysA_next {l : List Au} {i : Nat} (h : i < l.length) : keysA (l.take (i + 1)) = keysA (l.take i) ++ keysT l[i] (headsA l[i]).length := by
  unfold keysA keysT
  rw [Fc.take_next h, List.flatMap_append, List.take_length]; simp
theorem keysA_split {l : List Au} {i : Nat} (h : i < l.length) (k : Nat) : ∃ r, keysA l = (keysA (l.take i) ++ keysT l[i] k) ++ r := by
  refine ⟨(((headsA l[i]).drop k).map fun s => (normF s, l[i].kind)) ++ keysA (l.drop (i + 1)), ?_⟩
  have e1 : keysA l = keysA (l.take i) ++ (((headsA l[i]).map fun s => (normF s, l[i].kind)) ++ keysA (l.drop (i + 1))) := by
    have : l = l.take i ++ (l[i] :: l.drop (i + 1)) := by rw [← Fc.drop_cons h, List.take_append_drop]
    conv => lhs; rw [this]
    unfold keysA
    rw [List.flatMap_append, List.flatMap_cons]
  have e2 : ((headsA l[i]).map fun s => (normF s, l[i].kind)) = keysT l[i] k ++ ((headsA l[i]).drop k).map fun s => (normF s, l[i].kind) := by
    unfold keysT
    rw [← List.map_append, List.take_append_drop]
  rw [e1, e2]; simp
def ksA (l : List Au) (a : Au) (i k : Nat) : List (Str × Int) := keysA (l.take i) ++ keysT a k
theorem ksA_zero (l : List Au) (a : Au) (i : Nat) : ksA l a i 0 = keysA (l.take i) := by unfold ksA keysT; simp
theorem ksA_next {l : List Au} {a : Au} {i k : Nat} (h : k < (headsA a).length) : ksA l a i (k + 1) = ksA l a i k ++ [(normF (headsA a)[k], a.kind)] := by
  unfold ksA
  rw [keysT_next h, List.append_assoc]
theorem keysA_dup {l : List Au} {i k : Nat} (h : i < l.length) (hk : k < (headsA l[i]).length) (hm : (normF (headsA l[i])[k], l[i].kind) ∈ ksA l l[i] i k) : ¬ (keysA l).Nodup := fun hn => by
  obtain ⟨r, hr⟩ := keysA_split h (k + 1)
  rw [show keysA (l.take i) ++ keysT l[i] (k + 1) = ksA l l[i] i (k + 1) from rfl, ksA_next hk] at hr
  rw [hr, List.nodup_append] at hn
  have h1 := hn.1
  rw [List.nodup_append] at h1
  exact h1.2.2 _ hm _ (by simp) rfl
theorem c75 (l : List Au) (hl : l.length ≤ 100) (hs : ∀ a ∈ l, a.see.length ≤ 2000000) (hh : ∀ a ∈ l, ∀ s ∈ headsA a, s.length ≤ 2000000) (hK : (keysA l).length ≤ 2000000) : AFn Tryz.prog Γ 75 [.c (.d (.lst 5 (l.map Au.ds)))] [.d (.bool (twiceA l))] := by
  generalize hR : twiceA l = R
  unfold twiceA at hR
  refine AFn.vc [] Tryz.func75 rfl Tryz.mixed (by kernel_rfl) Tryz.ntmps75 Tryz.results75 (by simp) ?_
  push_cast
  refine LoopV.nilrow 3 3 1 ?_
  push_cast
  refine LoopV.nilrow 4 9 1 ?_
  push_cast
  refine LoopV.cntH Tryz.mixed [0] l.length (fun i => [(3, .c (.own 0 (keysA (l.take i)).length)), (4, .c (.own 1 (keysA (l.take i)).length)), (5, .c (.d (.int .i64 i)))]) (fun i => [.row 3 1 ((keysA (l.take i)).map fun q => [.int .i64 q.2]) (keysA (l.take i)).length, .row 9 1 ((keysA (l.take i)).map fun q => [.str q.1]) (keysA (l.take i)).length]) (fun i => (keysA (l.take i)).Nodup) (by simp [keysA]) ?_ (by push_cast; exact ⟨rfl, ⟨rfl, rfl⟩, rfl, rfl⟩)
  intro i hi hnd
  push_cast
  refine ⟨fun h => ?_, fun h => ?_⟩
  · have hlt : i < l.length := by omega
    refine ⟨hlt, ?_⟩
    refine CallL.q (c73 l[i] (hs _ (List.getElem_mem hlt))) ?_
    push_cast
    have hhi := hh _ (List.getElem_mem hlt)
    have hnx := keysA_next hlt
    have hhl : (headsA l[i]).length = l[i].see.length + 1 := rfl
    have hhs := hs _ (List.getElem_mem hlt)
    refine LoopV.cntH Tryz.mixed [0, 5, 6] (headsA l[i]).length (fun k => [(3, .c (.own 0 (ksA l l[i] i k).length)), (4, .c (.own 1 (ksA l l[i] i k).length)), (7, .c (.d (.int .i64 k)))]) (fun k => [.row 3 1 ((ksA l l[i] i k).map fun q => [.int .i64 q.2]) (ksA l l[i] i k).length, .row 9 1 ((ksA l l[i] i k).map fun q => [.str q.1]) (ksA l l[i] i k).length]) (fun k => (ksA l l[i] i k).Nodup) (by rw [ksA_zero]; exact hnd) ?_ (by push_cast [ksA_zero])
    intro k hk hnd2
    push_cast
    refine ⟨fun h2 => ?_, fun h2 => ?_⟩
    · have hkt : k < (headsA l[i]).length := by omega
      refine ⟨hkt, ?_⟩
      refine CallL.q (c81 (headsA l[i])[k] (hhi _ (List.getElem_mem hkt))) ?_
      push_cast
      refine LoopV.cnt Tryz.mixed [0, 3, 4, 5, 6, 7, 8] (ksA l l[i] i k).length (fun j => [(9, .c (.d (.int .i64 j)))]) (fun j => (normF (headsA l[i])[k], l[i].kind) ∈ ksA l l[i] i k → (normF (headsA l[i])[k], l[i].kind) ∈ (ksA l l[i] i k).drop j) (by simp) ?_
      intro j hj hinv
      push_cast
      have hb : (ksA l l[i] i k).length ≤ 2000000 := by
        obtain ⟨r, hr⟩ := keysA_split hlt k
        have := congrArg List.length hr
        rw [List.length_append] at this
        have e : (ksA l l[i] i k).length = (keysA (l.take i) ++ keysT l[i] k).length := rfl
        omega
      refine ⟨fun h3 => ?_, fun h3 => ?_⟩
      · have hjt : j < (ksA l l[i] i k).length := by omega
        have hm := Fc.mem_step (n := (normF (headsA l[i])[k], l[i].kind)) hjt
        refine ⟨by omega, hjt, fun e => ⟨by omega, hjt, hlt, fun e2 => ?_, fun e2 => ⟨by omega, hjt, fun q => ?_⟩⟩, fun e => ⟨by omega, hjt, fun q => ?_⟩⟩
        · have hin : (normF (headsA l[i])[k], l[i].kind) ∈ ksA l l[i] i k := by
            have := List.getElem_mem hjt
            rwa [show (ksA l l[i] i k)[j] = (normF (headsA l[i])[k], l[i].kind) from Prod.ext e e2] at this
          rw [← hR, decide_eq_false (keysA_dup hlt hkt hin)]; rfl
        · exact (hm.1 (hinv q)).resolve_left fun z => e2 (by rw [z])
        · exact (hm.1 (hinv q)).resolve_left fun z => e (by rw [z])
      · have hno : (normF (headsA l[i])[k], l[i].kind) ∉ ksA l l[i] i k := fun q => by
          have := hinv q
          rw [List.drop_eq_nil_of_le (by omega)] at this
          cases this
        have hn := ksA_next (l := l) (i := i) hkt
        have hnd3 : (ksA l l[i] i (k + 1)).Nodup := by
          rw [hn, List.nodup_append]
          exact ⟨hnd2, by simp, fun a ha b hb => by
            have : b = (normF (headsA l[i])[k], l[i].kind) := by simpa using hb
            rw [this]
            exact fun z => hno (z ▸ ha)⟩
        have hl1 : (ksA l l[i] i (k + 1)).length = (ksA l l[i] i k).length + 1 := by rw [hn]; simp
        exact ⟨⟨by omega, by omega⟩, hlt, ⟨by omega, by omega⟩, by omega, ⟨hkt, hnd3⟩, hl1, ⟨by rw [hn]; simp, hl1.symm⟩, by rw [hn]; simp, hl1.symm⟩
    · have e : keysA (l.take (i + 1)) = ksA l l[i] i k := by rw [hnx, show k = (headsA l[i]).length by omega]; rfl
      exact ⟨by omega, ⟨hlt, by rw [e]; exact hnd2⟩, by rw [e], ⟨by rw [e], by rw [e]⟩, by rw [e], by rw [e]⟩
  · rw [← hR, decide_eq_true (by rw [List.take_of_length_le (by omega)] at hnd; exact hnd)]; rfl
end Go.Proofs

/- Browse lists: the list that is built. Plain data; no condition. -/
namespace Go.Fc
open Go Go.Ax Go.Or Go.Tx
def hasH (H : Fld → Int × Str) (r : Rec) (kind : Int) (h : Str) : Bool := r.fields.any fun f => decide (H f = (kind, h))
def cntH (H : Fld → Int × Str) (l : List Rec) (kind : Int) (h : Str) : Int := (l.countP fun r => hasH H r kind h : Nat)
end Go.Fc

/- Browse lists by the reference; sizes of records; equality of browse lists. No condition. -/
namespace Go.Fc
open Go Go.Ax Go.Or Go.Tx
theorem all_step {α : Type} {p : α → Bool} {l : List α} {k : Nat} (h : k < l.length) : (l.drop k).all p = (p l[k] && (l.drop (k + 1)).all p) := by rw [drop_cons h]; rfl
theorem all_end {α : Type} {p : α → Bool} {l : List α} {k : Nat} (h : ¬ k < l.length) : (l.drop k).all p = true := by rw [List.drop_eq_nil_of_le (by omega)]; rfl
end Go.Fc
namespace Go.Proofs
open Go Go.Ax Go.Tx Go.Lib Go.RowKit Go.Fc
set_option maxRecDepth 100000
set_option maxHeartbeats 0
variable {Γ : List (Nat × List D)}
end Go.Proofs

/- Right and Small of authority files, by the reference. No condition. -/
namespace Go.Fc
open Go Go.Ax Go.Or Go.Tx
theorem ascI_step {l : List Int} {k : Nat} (h : k + 1 < l.length) : ascI (l.drop k) = (decide (l[k] < l[k + 1]) && ascI (l.drop (k + 1))) := by
  rw [drop_cons (show k < l.length by omega), drop_cons h]; rfl
theorem ascI_end {l : List Int} {k : Nat} (h : ¬ k + 1 < l.length) : ascI (l.drop k) = true := by
  have : (l.drop k).length ≤ 1 := by rw [List.length_drop]; omega
  match l.drop k, this with
  | [], _ => rfl
  | [_], _ => rfl
end Go.Fc
namespace Go.Proofs
open Go Go.Ax Go.Tx Go.Lib Go.RowKit Go.Fc
set_option maxRecDepth 100000
set_option maxHeartbeats 0
variable {Γ : List (Nat × List D)}
theorem any_step {α : Type} {p : α → Bool} {l : List α} {k : Nat} (h : k < l.length) : (l.drop k).any p = (p l[k] || (l.drop (k + 1)).any p) := by rw [Fc.drop_cons h]; rfl
theorem any_end {α : Type} {p : α → Bool} {l : List α} {k : Nat} (h : ¬ k < l.length) : (l.drop k).any p = false := by rw [List.drop_eq_nil_of_le (by omega)]; rfl
theorem c26 (l : List Au) (hs : ∀ a ∈ l, a.see.length ≤ 2000000) : AFn Tryz.prog Γ 26 [.c (.d (.lst 5 (l.map Au.ds)))] [.d (.bool (smallAs l))] := by
  generalize hR : smallAs l = R
  unfold smallAs at hR
  refine AFn.vc [] Tryz.func26 rfl Tryz.mixed (by kernel_rfl) Tryz.ntmps26 Tryz.results26 (by simp) ?_
  push_cast
  refine ⟨fun h => by rw [← hR, decide_eq_false (by omega)]; rfl, fun h => ?_⟩
  rw [decide_eq_true (by omega), Bool.true_and] at hR
  refine LoopV.cnt Tryz.mixed [0] l.length (fun k => [(3, .c (.d (.int .i64 k)))]) (fun k => R = (l.drop k).all smallA) (by rw [List.drop_zero]; exact hR.symm) ?_
  intro k hk hinv
  push_cast
  refine ⟨fun h => ?_, fun h => ?_⟩
  · have hlt : k < l.length := by omega
    rw [all_step hlt] at hinv
    refine ⟨hlt, ?_⟩
    refine CallL.q (c73 l[k] (hs _ (List.getElem_mem hlt))) ?_
    push_cast
    unfold smallA at hinv
    have hhl : (headsA l[k]).length = l[k].see.length + 1 := rfl
    have hsk := hs _ (List.getElem_mem hlt)
    refine ⟨fun e => ⟨hlt, fun e2 => ?_, fun e2 => ?_⟩, fun e => ?_⟩
    · rw [hinv, decide_eq_false (p := l[k].above.length ≤ 8) (by omega)]; simp
    · rw [decide_eq_true (by omega), decide_eq_true (p := l[k].above.length ≤ 8) (by omega), Bool.true_and, Bool.true_and] at hinv
      refine LoopV.cnt Tryz.mixed [0, 3, 4] (headsA l[k]).length (fun j => [(5, .c (.d (.int .i64 j)))]) (fun j => R = (((headsA l[k]).drop j).all (fun s => decide (s.length ≤ 260)) && (l.drop (k + 1)).all smallA)) (by rw [List.drop_zero]; exact hinv) ?_
      intro j hj hinv2
      push_cast
      refine ⟨fun h3 => ?_, fun h3 => ?_⟩
      · have hjt : j < (headsA l[k]).length := by omega
        rw [all_step hjt] at hinv2
        refine ⟨hjt, fun e3 => ?_, fun e3 => ⟨by omega, hjt, ?_⟩⟩
        · rw [hinv2, decide_eq_false (by omega)]; rfl
        · rw [hinv2, decide_eq_true (by omega), Bool.true_and]
      · rw [all_end (by omega), Bool.true_and] at hinv2
        exact ⟨by omega, hlt, hinv2⟩
    · rw [hinv, decide_eq_false (by omega)]; rfl
  · rw [hinv, all_end (by omega)]
theorem c27 (l : List Au) (hs : ∀ a ∈ l, a.see.length ≤ 2000000) (hh : ∀ a ∈ l, ∀ s ∈ headsA a, s.length ≤ 2000000) : AFn Tryz.prog Γ 27 [.c (.d (.lst 5 (l.map Au.ds)))] [.d (.int .i64 (rightA l))] := by
  generalize hR : rightA l = R
  unfold rightA at hR
  have k1 : 64 < l.length → R = 13 := fun h => by rw [← hR, if_pos h]
  have k2 : ¬ 64 < l.length → formsE none l ≠ 0 → R = formsE none l := fun h h' => by rw [← hR, if_neg h, if_neg h']
  have k3 : ¬ 64 < l.length → formsE none l = 0 → (if twiceA l = true then 7 else if firstE (above1 l) l = 0 then (if loopE l = true then 11 else 0) else firstE (above1 l) l) = R := fun h h' => by rw [← hR, if_neg h, if_pos h']
  clear hR
  refine AFn.vc [] Tryz.func27 rfl Tryz.mixed (by kernel_rfl) Tryz.ntmps27 Tryz.results27 (by simp) ?_
  push_cast
  refine ⟨fun h => (k1 (by omega)).symm, fun h64 => ?_⟩
  have k2 := k2 (by omega)
  have k3 := k3 (by omega)
  clear k1
  refine LoopV.cnt Tryz.mixed [0] l.length (fun k => [(3, .c (.d (.int .i64 k)))]) (fun k => formsE none l = formsE (prevI l k) (l.drop k)) (by simp [prevI]) ?_
  intro k hk hinv
  push_cast
  refine ⟨fun h => ?_, fun h => ?_⟩
  · have hlt : k < l.length := by omega
    rw [formsE_step hlt] at hinv
    have hsk := hs _ (List.getElem_mem hlt)
    have hhk := hh _ (List.getElem_mem hlt)
    have r1 : ∀ e : Int, e ≠ 0 → formsE none l = e → e = R := fun e h0 h1 => by rw [k2 (by rw [h1]; exact h0), h1]
    have e1 : (l[k].id < 1 ∨ 9999 < l[k].id) → 2 = R := fun c => r1 2 (by decide) (by rw [hinv, if_pos c])
    have hp0 : k = 0 → prevI l k = none := fun c => if_pos c
    have hp1 : ∀ h0 : 0 < k, prevI l k = some (l[k - 1]'(by omega)).id := fun h0 => by
      unfold prevI
      rw [if_neg (by omega), List.getElem?_eq_getElem (by omega)]; rfl
    have hp2 : ∀ (z : Nat) (hz : z + 1 = k) (hb : z < l.length), prevI l k = some l[z].id := fun z hz hb => by
      unfold prevI
      rw [if_neg (by omega), show k - 1 = z by omega, List.getElem?_eq_getElem hb]; rfl
    have e2 : ¬ (l[k].id < 1 ∨ 9999 < l[k].id) → ∀ (z : Nat) (hz : z + 1 = k) (hb : z < l.length), l[k].id ≤ l[z].id → 7 = R := fun c z hz hb c2 => r1 7 (by decide) (by rw [hinv, if_neg c, hp2 z hz hb, if_pos (by exact decide_eq_true c2)])
    have e0 : ¬ (l[k].id < 1 ∨ 9999 < l[k].id) → (∀ (z : Nat) (hz : z + 1 = k) (hb : z < l.length), ¬ l[k].id ≤ l[z].id) → formsE none l = if shapeA l[k] = 0 then formsE (prevI l (k + 1)) (l.drop (k + 1)) else shapeA l[k] := fun c c2 => by
      rw [hinv, if_neg c]
      rcases Nat.eq_zero_or_pos k with h0 | h0
      · rw [hp0 h0, if_neg (by simp)]
      · rw [hp2 (k - 1) (by omega) (by omega), if_neg (by simpa using c2 (k - 1) (by omega) (by omega))]
    have e3 : ¬ (l[k].id < 1 ∨ 9999 < l[k].id) → (∀ (z : Nat) (hz : z + 1 = k) (hb : z < l.length), ¬ l[k].id ≤ l[z].id) → shapeA l[k] ≠ 0 → shapeA l[k] = R := fun c c2 c3 => r1 _ c3 (by rw [e0 c c2, if_neg c3])
    have e4 : ¬ (l[k].id < 1 ∨ 9999 < l[k].id) → (∀ (z : Nat) (hz : z + 1 = k) (hb : z < l.length), ¬ l[k].id ≤ l[z].id) → shapeA l[k] = 0 → formsE none l = formsE (prevI l (k + 1)) (l.drop (k + 1)) := fun c c2 c3 => by rw [e0 c c2, if_pos c3]
    clear hp0 hp1 hp2 e0 r1 hinv k2 k3
    have fin : ¬ (l[k].id < 1 ∨ 9999 < l[k].id) → (∀ (z : Nat) (hz : z + 1 = k) (hb : z < l.length), ¬ l[k].id ≤ l[z].id) → (¬ shapeA l[k] = 0 → shapeA l[k] = R) ∧ (shapeA l[k] = 0 → (-9223372036854775808 ≤ (k : Int) + 1 ∧ (k : Int) + 1 ≤ 9223372036854775807) ∧ k < l.length ∧ formsE none l = formsE (prevI l (k + 1)) (l.drop (k + 1))) := fun c c2 => ⟨e3 c c2, fun c3 => ⟨by omega, hlt, e4 c c2 c3⟩⟩
    refine ⟨hlt, fun a1 => ⟨hlt, fun a2 => e1 (by omega), fun a2 => ⟨fun a3 => ⟨hlt, by omega, by omega, by omega, fun a4 => e2 (by omega) _ (by omega) _ a4, fun a4 => ⟨hlt, ?_⟩⟩, fun a3 => ⟨hlt, ?_⟩⟩⟩, fun a1 => e1 (by omega)⟩
    · have hno : ∀ (z : Nat) (hz : z + 1 = k) (hb : z < l.length), ¬ l[k].id ≤ l[z].id := fun z hz hb => by
        have e : ((k : Int) - 1).toNat = z := by omega
        simp only [e] at a4
        omega
      refine CallL.q (c74 l[k] hsk hhk) ?_
      push_cast
      exact fin (by omega) hno
    · refine CallL.q (c74 l[k] hsk hhk) ?_
      push_cast
      exact fin (by omega) (fun z hz => by omega)
  · rw [formsE_end (by omega)] at hinv
    have k3 := k3 hinv
    have hK : (keysA l).length ≤ 2000000 := by
      have h1 := keys_le 8 l fun a ha => (shapeA_ok (formsE_ok hinv a ha).1).2.1
      have h2 : l.length * 9 ≤ 64 * 9 := Nat.mul_le_mul (by omega) (Nat.le_refl _)
      omega
    clear k2 hinv
    refine CallL.q (c75 l (by omega) hs hh hK) ?_
    push_cast
    refine ⟨fun t => by rw [← k3, if_pos t], fun t => ?_⟩
    rw [if_neg (by simp [t])] at k3
    refine LoopV.cnt Tryz.mixed [0] l.length (fun i => [(5, .c (.d (.int .i64 i)))]) (fun i => firstE (above1 l) l = firstE (above1 l) (l.drop i)) (by simp) ?_
    intro i hi hinv
    push_cast
    refine ⟨fun h2 => ?_, fun h2 => ?_⟩
    · have hlt : i < l.length := by omega
      rw [firstE_step hlt] at hinv
      have r1 : ∀ e : Int, e ≠ 0 → above1 l l[i] = e → e = R := fun e h0 h1 => by
        rw [h1, if_neg h0] at hinv
        rw [hinv, if_neg h0] at k3
        exact k3
      refine ⟨hlt, fun a1 => r1 13 (by decide) (if_pos (by omega)), fun a1 => ?_⟩
      refine LoopV.of0 Tryz.mixed [0, 5, 6] (fun q : Nat => [(7, .c (.d (.int .i64 q)))]) (fun q => 1 ≤ q ∧ q ≤ l[i].above.length + 1 ∧ ascI l[i].above = ascI (l[i].above.drop (q - 1))) (fun q => l[i].above.length + 1 - q) 1 ⟨Nat.le_refl _, by omega, by simp⟩ ?_ (by push_cast)
      rintro q ⟨hq1, hq2, hq3⟩
      push_cast
      refine ⟨fun h3 => ?_, fun h3 => ?_⟩
      · have hqt : q < l[i].above.length := by omega
        have hst : ∀ (z : Nat) (hz : z + 1 = q) (hb : z < l[i].above.length), ascI l[i].above = (decide (l[i].above[z] < l[i].above[q]) && ascI (l[i].above.drop q)) := fun z hz hb => by
          subst hz
          rw [hq3, Nat.add_sub_cancel, ascI_step hqt]
        refine ⟨hqt, by omega, by omega, by omega, fun e => ?_, fun e => ⟨by omega, q + 1, ⟨⟨by omega, by omega, ?_⟩, by omega⟩, by push_cast⟩⟩
        · refine r1 7 (by decide) ?_
          unfold above1
          rw [if_neg (by omega), if_pos]
          rw [hst ((q : Int) - 1).toNat (by omega) (by omega), decide_eq_false (by omega)]; rfl
        · rw [Nat.add_sub_cancel, hst ((q : Int) - 1).toNat (by omega) (by omega), decide_eq_true e, Bool.true_and]
      · have hasc : ascI l[i].above = true := by rw [hq3, ascI_end (by omega)]
        refine LoopV.cnt Tryz.mixed [0, 5, 6] l[i].above.length (fun j => [(8, .c (.d (.int .i64 j)))]) (fun j => l[i].above.all (sameK l l[i].kind) = (l[i].above.drop j).all (sameK l l[i].kind)) (by simp) ?_
        intro j hj hinv2
        push_cast
        refine ⟨fun h4 => ?_, fun h4 => ?_⟩
        · have hjt : j < l[i].above.length := by omega
          rw [all_step hjt] at hinv2
          have r9 : sameK l l[i].kind l[i].above[j] = false → 9 = R := fun e => r1 9 (by decide) (by
            unfold above1
            rw [if_neg (by omega), if_neg (by rw [hasc]; simp), hinv2, e, if_neg (by simp)])
          have r0 : sameK l l[i].kind l[i].above[j] = true → l[i].above.all (sameK l l[i].kind) = (l[i].above.drop (j + 1)).all (sameK l l[i].kind) := fun e => by rw [hinv2, e, Bool.true_and]
          refine ⟨hjt, ?_⟩
          refine CallL.q (c29 l l[i].above[j] (by omega)) ?_
          push_cast
          cases hg : getA l l[i].above[j] with
          | none =>
            have hsk : sameK l l[i].kind l[i].above[j] = false := by unfold sameK; rw [hg]
            exact ⟨fun e => absurd e (by simp), fun _ => r9 hsk⟩
          | some x =>
            have hsk : sameK l l[i].kind l[i].above[j] = decide (x.kind = l[i].kind) := by unfold sameK; rw [hg]
            exact ⟨fun _ => ⟨hlt, fun e => r9 (by rw [hsk]; exact decide_eq_false e), fun e => ⟨by omega, hjt, r0 (by rw [hsk]; exact decide_eq_true e)⟩⟩, fun e => absurd e (by simp)⟩
        · have hok : above1 l l[i] = 0 := by
            unfold above1
            rw [if_neg (by omega), if_neg (by rw [hasc]; simp), hinv2, all_end (by omega), if_pos rfl]
          rw [if_pos hok] at hinv
          exact ⟨by omega, hlt, hinv⟩
    · rw [firstE_end (by omega)] at hinv
      rw [hinv, if_pos rfl] at k3
      have hN : abN l ≤ 2000000 := by
        have h1 := ab_le 4 l fun a ha => above1_len (firstE_ok hinv a ha)
        have h2' : l.length * 4 ≤ 64 * 4 := Nat.mul_le_mul (by omega) (Nat.le_refl _)
        omega
      unfold loopE at k3
      refine LoopV.cnt Tryz.mixed [0] l.length (fun j => [(11, .c (.d (.int .i64 j)))]) (fun j => (l.any fun a => decide (a.id ∈ aboveR l a.id)) = (l.drop j).any fun a => decide (a.id ∈ aboveR l a.id)) (by simp) ?_
      intro j hj hinv2
      push_cast
      refine ⟨fun h4 => ?_, fun h4 => ?_⟩
      · have hjt : j < l.length := by omega
        rw [any_step hjt] at hinv2
        refine ⟨hjt, ?_⟩
        refine CallX.q (c77 l l[j].id (by omega) hN) ?_
        push_cast
        have hO := iter_len l l[j].id (l.length + 1)
        have hO2 : (l.length + 1) * abN l ≤ 101 * 2000000 := Nat.mul_le_mul (by omega) hN
        refine ⟨hjt, ?_⟩
        refine CallX.q (c76 (aboveR l l[j].id) l[j].id (by unfold aboveR; omega)) ?_
        push_cast
        refine ⟨fun e => ?_, fun e => ⟨by omega, hjt, ?_⟩⟩
        · rw [hinv2, decide_eq_true e, Bool.true_or, if_pos rfl] at k3
          exact k3
        · rw [hinv2, decide_eq_false e, Bool.false_or]
      · rw [any_end (by omega)] at hinv2
        rw [hinv2] at k3
        exact k3
end Go.Proofs
